/- The program's reader of bytes: a node. -/
import Derived.Test.YtaompdnnkfmjhaaGreatDoorJRdE
import Derived.Test.YtaompdnnkfmjhaaGreatDoorJPFit11
namespace Go.Proofs.YtaompdnnkfmjhaaGreatDoor
open Go.RowKit

/-- What the reader knows of a node behind its parts. -/
structure ParseSt (s : List UInt8) (n : Nod) (s' : List UInt8) (ok : Bool) : Prop where
  yes : ok = true → parseN s = some (n, s') ∨ (fitN n = false ∧ parseN s = none)
  no : ok = false → parseN s = none
  small : ok = true → n.data.length ≤ s.length ∧ n.parts.length ≤ 1024 ∧ n.ents.length ≤ 1024 ∧ ∀ e ∈ n.ents, e.1.length ≤ s.length
theorem first_true {s s1 : List UInt8} {c : UInt8} (h : RdP (firstR s) true c s1 true) : s = c :: s1 := by
  have h2 := h.2 rfl
  cases s with
  | nil => cases h2
  | cons c' r => obtain ⟨_, rfl, rfl⟩ := (show true = true ∧ c = c' ∧ s1 = r from h2); rfl
theorem first_false {s s1 : List UInt8} {c : UInt8} (h : RdP (firstR s) true c s1 false) : s = [] := by
  have h2 := h.2 rfl
  cases s with
  | nil => rfl
  | cons c' r => obtain ⟨h3, _⟩ := (show false = true ∧ c = c' ∧ s1 = r from h2); cases h3
theorem parse_one {s s1 : List UInt8} {c : UInt8} {ok : Bool} (h : RdP (firstR s) true c s1 ok) (hc : c.toNat = 1) : ParseSt s ⟨1, s1, [], []⟩ [] ok := by
  cases ok with
  | true =>
    have hs := first_true h
    subst hs
    exact ⟨fun _ => .inl (by rw [parseN_cons, if_pos hc]), fun e => (by cases e), fun _ => ⟨by simp, by simp, by simp, by simp⟩⟩
  | false =>
    have hs := first_false h
    subst hs
    exact ⟨fun e => (by cases e), fun _ => rfl, fun e => (by cases e)⟩
theorem parse_two {s s1 s' : List UInt8} {c : UInt8} {ok ok' : Bool} {l : List Prt} (h : RdP (firstR s) true c s1 ok) (hc : c.toNat = 2) (hp : RdP (listR partR s1) ok l s' ok') : ParseSt s ⟨2, [], l, []⟩ s' ok' := by
  cases ok with
  | false =>
    have hs := first_false h
    subst hs
    rw [hp.1 rfl]
    exact ⟨fun e => (by cases e), fun _ => rfl, fun e => (by cases e)⟩
  | true =>
    have hs := first_true h
    subst hs
    have h2 := hp.2 rfl
    have hpn : parseN (c :: s1) = match listR partR s1 with | none => none | some (l, r) => some (⟨2, [], l, []⟩, r) := by rw [parseN_cons, if_neg (by omega), if_pos hc]; rfl
    cases hq : listR partR s1 with
    | none =>
      rw [hq] at h2 hpn
      rw [show ok' = false from h2]
      exact ⟨fun e => (by cases e), fun _ => hpn, fun e => (by cases e)⟩
    | some q =>
      obtain ⟨l', r'⟩ := q
      have hlen := listR_len hq
      rw [hq] at h2 hpn
      obtain ⟨rfl, rfl, rfl⟩ := (show ok' = true ∧ l = l' ∧ s' = r' from h2)
      exact ⟨fun _ => .inl hpn, fun e => (by cases e), fun _ => ⟨by simp, hlen, by simp, by simp⟩⟩
theorem parse_three {s s1 s' : List UInt8} {c : UInt8} {ok ok' : Bool} {l : List Ent} (h : RdP (firstR s) true c s1 ok) (hc : c.toNat = 3) (hp : RdP (listR entR s1) ok l s' ok') : ParseSt s ⟨3, [], [], l⟩ s' ok' := by
  cases ok with
  | false =>
    have hs := first_false h
    subst hs
    rw [hp.1 rfl]
    exact ⟨fun e => (by cases e), fun _ => rfl, fun e => (by cases e)⟩
  | true =>
    have hs := first_true h
    subst hs
    have h2 := hp.2 rfl
    have hpn : parseN (c :: s1) = match listR entR s1 with | none => none | some (l, r) => some (⟨3, [], [], l⟩, r) := by rw [parseN_cons, if_neg (by omega), if_neg (by omega), if_pos hc]; rfl
    cases hq : listR entR s1 with
    | none =>
      rw [hq] at h2 hpn
      rw [show ok' = false from h2]
      exact ⟨fun e => (by cases e), fun _ => hpn, fun e => (by cases e)⟩
    | some q =>
      obtain ⟨l', r'⟩ := q
      have hlen := listR_len hq
      have hsm := listE_small hq
      rw [hq] at h2 hpn
      obtain ⟨rfl, rfl, rfl⟩ := (show ok' = true ∧ l = l' ∧ s' = r' from h2)
      exact ⟨fun _ => .inl hpn, fun e => (by cases e), fun _ => ⟨by simp, by simp, hlen, fun e he => by have := hsm e he; simp; omega⟩⟩
theorem parse_else {s s1 : List UInt8} {c : UInt8} {ok : Bool} (h : RdP (firstR s) true c s1 ok) (h1 : c.toNat ≠ 1) (h2 : c.toNat ≠ 2) (h3 : c.toNat ≠ 3) : ParseSt s ⟨(c.toNat : Nat), [], [], []⟩ s1 ok := by
  cases ok with
  | false =>
    have hs := first_false h
    subst hs
    exact ⟨fun e => (by cases e), fun _ => rfl, fun e => (by cases e)⟩
  | true =>
    have hs := first_true h
    subst hs
    exact ⟨fun _ => .inr ⟨fitN_else (by omega) (by omega) (by omega), by rw [parseN_cons, if_neg h1, if_neg h2, if_neg h3]⟩, fun e => (by cases e), fun _ => ⟨by simp, by simp, by simp, by simp⟩⟩


/-- What node() leaves. -/
def NodePost (s : List UInt8) (g : Nat) (w : World) (e : Ending) (w' : World) : Prop :=
  ∃ (n : Nod) (vp ve ev : Value) (ok : Bool), e = .returned (.tuple #[NodV n vp ve, ev]) ∧ ErrV ok ev ∧ NodRow w' n vp ve ∧ ((∀ j, vp.ownBlock = some j → w.heap.size ≤ j) ∧ (∀ j, ve.ownBlock = some j → w.heap.size ≤ j)) ∧ Gro g w w' ∧ (ok = true → readN s = (n, 0)) ∧ (ok = false → readN s = (zNod, 2))

set_option maxHeartbeats 8000000 in
set_option maxRecDepth 100000 in
theorem node_walk (g : Nat) (s : List UInt8) (w : World) (h : RdAt w g s true) (hs : s.length ≤ 1000000) :
    Calls Tryz.prog 80 #[.pointer (some ⟨g, 0, none⟩)] w (NodePost s g w) := by
  have hgl : g < w.heap.size := by obtain ⟨_, h1, _⟩ := h; exact heap_lt h1
  obtain ⟨w1, hw1, hb1, hz1⟩ : ∃ w1, w1 = w.alloc (.cells #[.int .i64 0, .string ⟨#[]⟩, .slice none 0 0, .slice none 0 0] 36) ∧ Below w.heap.size w w1 ∧ w1.heap[w.heap.size]? = some (.cells #[.int .i64 0, .string ⟨#[]⟩, .slice none 0 0, .slice none 0 0] 36 (0, 0)) :=
    ⟨_, rfl, (Below.refl _ _).alloc (Nat.le_refl _) _, heap_alloc_new _ _⟩
  have CK := kind_walk g s true w1 (h.below hb1) (by omega)
  have HG1 := Lib.hid (gro_of (g := g) hb1)
  clear hb1 h
  go_enter Tryz.func80, Tryz.ntmps80
  go_upto_region 1 with fail
  rw [← hw1]
  clear hw1
  go_wp2_with fail
  refine CK.mono ?_
  rintro e w2 ⟨c, s1, ok1, rfl, hr2, hg2, hl2, hp2⟩
  have hz2 := (hg2.block _ (heap_lt hz1) (by simp; omega)).trans hz1
  have HG2 := Lib.hid (World.grownBy.trans HG1.out hg2)
  have HP2 := Lib.hid hp2
  have hcw : IntKind.i64.wrap ((c.toNat : Nat) : Int) = (c.toNat : Nat) := by rw [IntKind.wrap_i64]; have := c.toNat_lt; omega
  obtain ⟨w3, hw3, hb3, hn3, hz3, hr3⟩ : ∃ w3, w3 = w2.alloc (.cells #[.int .i64 ((c.toNat : Nat) : Int), .string ⟨#[]⟩, .slice none 0 0, .slice none 0 0] 36) ∧ Below w2.heap.size w2 w3 ∧ w3.heap[w2.heap.size]? = some (.cells #[.int .i64 ((c.toNat : Nat) : Int), .string ⟨#[]⟩, .slice none 0 0, .slice none 0 0] 36 (0, 0)) ∧ w3.heap[w.heap.size]? = some (.cells #[.int .i64 0, .string ⟨#[]⟩, .slice none 0 0, .slice none 0 0] 36 (0, 0)) ∧ RdAt w3 g s1 ok1 :=
    ⟨_, rfl, (Below.refl _ _).alloc (Nat.le_refl _) _, heap_alloc_new _ _, (((Below.refl _ _).alloc (Nat.le_refl _) _).block _ (heap_lt hz2)).trans hz2, hr2.below ((Below.refl _ _).alloc (Nat.le_refl _) _)⟩
  have HG3 := Lib.hid (gro_chain HG2.out hb3)
  have hgN : g < w2.heap.size := by have := HG2.out.size; omega
  have hRN : w.heap.size < w2.heap.size := heap_lt hz2
  clear CK hr2 hg2 hp2 hz1 hz2 hb3
  go_upto_region 2 with fail
  rw [← hw3]
  clear hw3
  generalize w2.heap.size = N at *
  obtain ⟨⟨n0, n1, n2, n3⟩, ⟨m0, m1, m2, m3⟩, ⟨k0, k1, k2, k3⟩⟩ := box4 hn3
  obtain ⟨ev3, hb3, hev3⟩ := id hr3
  obtain ⟨⟨g0, g1⟩, ⟨d0, d1⟩, ⟨p0, p1⟩⟩ := box2 hb3
  have HEV3 := Lib.hid hev3
  have hNg : N ≠ g := by omega
  have HR3 := Lib.hid hr3
  clear hev3 hr3
  by_cases c1 : c.toNat = 1
  case' pos =>
    have e1 : (((c.toNat : Nat) : Int) == 1) = true := by rw [beq_iff_eq]; omega
    have HPS0 := Lib.hid (parse_one HP2.out c1)
    have hnd : ¬ ((⟨N, 1, none⟩ : Addr) = ⟨g, 0, none⟩) := by intro e; exact hNg (congrArg Addr.block e)
    obtain ⟨n, vp, ve, s', ok', wc, hwc, hnc, hzc, hrc, hrow, hvb, HGC, HPS⟩ : ∃ (n : Nod) (vp ve : Value) (s' : List UInt8) (ok' : Bool) (wc : World), wc = (w3.setCell ⟨N, 1, none⟩ (S s1)).setCell ⟨g, 0, none⟩ (S []) ∧ wc.heap[N]? = some (.cells #[.int .i64 n.kind, S n.data, vp, ve] 36 (0, 0)) ∧ wc.heap[w.heap.size]? = some (.cells #[.int .i64 0, .string ⟨#[]⟩, .slice none 0 0, .slice none 0 0] 36 (0, 0)) ∧ RdAt wc g s' ok' ∧ NodRow wc n vp ve ∧ ((∀ j, vp.ownBlock = some j → N ≤ j) ∧ (∀ j, ve.ownBlock = some j → N ≤ j)) ∧ Hid (Gro g w wc) ∧ Hid (ParseSt s n s' ok') :=
      ⟨⟨1, s1, [], []⟩, .slice none 0 0, .slice none 0 0, [], ok1, _, rfl, (by rw [show (1 : Int) = ((c.toNat : Nat) : Int) by omega]; exact (Below.heap_setCell _ _ _ _ hNg).trans (heap_set_cell hn3 _)), (Below.heap_setCell _ _ _ _ (show w.heap.size ≠ g by omega)).trans ((Below.heap_setCell _ _ _ _ (show w.heap.size ≠ N by omega)).trans hz3),
        ⟨ev3, rd_set0 (s' := []) ((Below.heap_setCell _ _ _ _ (show g ≠ N by omega)).trans hb3), HEV3.out⟩, ⟨Row.nil _ _, Row.nil _ _⟩, ⟨(fun j hj => by simp [Value.ownBlock] at hj), (fun j hj => by simp [Value.ownBlock] at hj)⟩, Lib.hid (gro_set (gro_other HG3.out (by omega) _ _) 0 _), HPS0⟩
    clear HPS0 c1
    go_upto_region 9 with fail
    rw [← hwc]
    clear hwc hn3 hz3 hb3 HR3 HG3 HEV3 HP2 g0 g1 d0 d1 p0 p1 n0 n1 n2 n3 m0 m1 m2 m3 k0 k1 k2 k3 hnd
  case' neg =>
    by_cases c2 : c.toNat = 2
    case' pos =>
      have e1 : (((c.toNat : Nat) : Int) == 1) = false := by rw [beq_eq_false_iff_ne]; omega
      have e2 : (((c.toNat : Nat) : Int) == 2) = true := by rw [beq_iff_eq]; omega
      have CS := severalP_walk g s1 ok1 w3 HR3.out (by omega)
      go_wp2_with fail
      refine CS.mono ?_
      rintro e w4 ⟨v, l, s4, ok4, rfl, hrow4, hvb4, hr4, hg4, hl4, hp4⟩
      obtain ⟨va, vc, rfl⟩ := row_slice hrow4
      have HPS0 := Lib.hid (parse_two HP2.out c2 hp4)
      have hn4 := (hg4.block _ (heap_lt hn3) (by simp; omega)).trans hn3
      have hz4 := (hg4.block _ (heap_lt hz3) (by simp; omega)).trans hz3
      have hsz3 := heap_lt hn3
      obtain ⟨⟨x0, x1, x2, x3⟩, ⟨y0, y1, y2, y3⟩, ⟨v0, v1, v2, v3⟩⟩ := box4 hn4
      obtain ⟨n, vp, ve, s', ok', wc, hwc, hnc, hzc, hrc, hrow, hvb, HGC, HPS⟩ : ∃ (n : Nod) (vp ve : Value) (s' : List UInt8) (ok' : Bool) (wc : World), wc = w4.setCell ⟨N, 2, none⟩ (.slice va l.length vc) ∧ wc.heap[N]? = some (.cells #[.int .i64 n.kind, S n.data, vp, ve] 36 (0, 0)) ∧ wc.heap[w.heap.size]? = some (.cells #[.int .i64 0, .string ⟨#[]⟩, .slice none 0 0, .slice none 0 0] 36 (0, 0)) ∧ RdAt wc g s' ok' ∧ NodRow wc n vp ve ∧ ((∀ j, vp.ownBlock = some j → N ≤ j) ∧ (∀ j, ve.ownBlock = some j → N ≤ j)) ∧ Hid (Gro g w wc) ∧ Hid (ParseSt s n s' ok') :=
        ⟨⟨2, [], l, []⟩, .slice va l.length vc, .slice none 0 0, s4, ok4, _, rfl, (by rw [show (2 : Int) = ((c.toNat : Nat) : Int) by omega]; exact heap_set_cell hn4 _), (Below.heap_setCell _ _ _ _ (show w.heap.size ≠ N by omega)).trans hz4, rd_other hr4 (by omega) _ _,
          ⟨row_other hrow4 (fun j hj => by have := hvb4 j hj; omega) _ _, Row.nil _ _⟩, ⟨(fun j hj => by have := hvb4 j hj; omega), (fun j hj => by simp [Value.ownBlock] at hj)⟩, Lib.hid (gro_other (World.grownBy.trans HG3.out hg4) (by omega) _ _), HPS0⟩
      clear HPS0 c1 c2 CS hp4 hg4 hr4 hrow4 hvb4
      go_upto_region 9 with fail
      rw [← hwc]
      clear hwc hn3 hz3 hb3 HR3 HG3 HEV3 HP2 g0 g1 d0 d1 p0 p1 n0 n1 n2 n3 m0 m1 m2 m3 k0 k1 k2 k3 hn4 hz4 x0 x1 x2 x3 y0 y1 y2 y3 v0 v1 v2 v3
    case' neg =>
      by_cases c3 : c.toNat = 3
      case' pos =>
        have e1 : (((c.toNat : Nat) : Int) == 1) = false := by rw [beq_eq_false_iff_ne]; omega
        have e2 : (((c.toNat : Nat) : Int) == 2) = false := by rw [beq_eq_false_iff_ne]; omega
        have e3 : (((c.toNat : Nat) : Int) == 3) = true := by rw [beq_iff_eq]; omega
        have CS := severalE_walk g s1 ok1 w3 HR3.out (by omega)
        go_wp2_with fail
        refine CS.mono ?_
        rintro e w4 ⟨v, l, s4, ok4, rfl, hrow4, hvb4, hr4, hg4, hl4, hp4⟩
        obtain ⟨va, vc, rfl⟩ := row_slice hrow4
        have HPS0 := Lib.hid (parse_three HP2.out c3 hp4)
        have hn4 := (hg4.block _ (heap_lt hn3) (by simp; omega)).trans hn3
        have hz4 := (hg4.block _ (heap_lt hz3) (by simp; omega)).trans hz3
        have hsz3 := heap_lt hn3
        obtain ⟨⟨x0, x1, x2, x3⟩, ⟨y0, y1, y2, y3⟩, ⟨v0, v1, v2, v3⟩⟩ := box4 hn4
        obtain ⟨n, vp, ve, s', ok', wc, hwc, hnc, hzc, hrc, hrow, hvb, HGC, HPS⟩ : ∃ (n : Nod) (vp ve : Value) (s' : List UInt8) (ok' : Bool) (wc : World), wc = w4.setCell ⟨N, 3, none⟩ (.slice va l.length vc) ∧ wc.heap[N]? = some (.cells #[.int .i64 n.kind, S n.data, vp, ve] 36 (0, 0)) ∧ wc.heap[w.heap.size]? = some (.cells #[.int .i64 0, .string ⟨#[]⟩, .slice none 0 0, .slice none 0 0] 36 (0, 0)) ∧ RdAt wc g s' ok' ∧ NodRow wc n vp ve ∧ ((∀ j, vp.ownBlock = some j → N ≤ j) ∧ (∀ j, ve.ownBlock = some j → N ≤ j)) ∧ Hid (Gro g w wc) ∧ Hid (ParseSt s n s' ok') :=
          ⟨⟨3, [], [], l⟩, .slice none 0 0, .slice va l.length vc, s4, ok4, _, rfl, (by rw [show (3 : Int) = ((c.toNat : Nat) : Int) by omega]; exact heap_set_cell hn4 _), (Below.heap_setCell _ _ _ _ (show w.heap.size ≠ N by omega)).trans hz4, rd_other hr4 (by omega) _ _,
            ⟨Row.nil _ _, row_other hrow4 (fun j hj => by have := hvb4 j hj; omega) _ _⟩, ⟨(fun j hj => by simp [Value.ownBlock] at hj), (fun j hj => by have := hvb4 j hj; omega)⟩, Lib.hid (gro_other (World.grownBy.trans HG3.out hg4) (by omega) _ _), HPS0⟩
        clear HPS0 c1 c2 c3 CS hp4 hg4 hr4 hrow4 hvb4
        go_upto_region 9 with fail
        rw [← hwc]
        clear hwc hn3 hz3 hb3 HR3 HG3 HEV3 HP2 g0 g1 d0 d1 p0 p1 n0 n1 n2 n3 m0 m1 m2 m3 k0 k1 k2 k3 hn4 hz4 x0 x1 x2 x3 y0 y1 y2 y3 v0 v1 v2 v3
      case' neg =>
        have e1 : (((c.toNat : Nat) : Int) == 1) = false := by rw [beq_eq_false_iff_ne]; omega
        have e2 : (((c.toNat : Nat) : Int) == 2) = false := by rw [beq_eq_false_iff_ne]; omega
        have e3 : (((c.toNat : Nat) : Int) == 3) = false := by rw [beq_eq_false_iff_ne]; omega
        have HPS0 := Lib.hid (parse_else HP2.out c1 c2 c3)
        obtain ⟨n, vp, ve, s', ok', wc, hwc, hnc, hzc, hrc, hrow, hvb, HGC, HPS⟩ : ∃ (n : Nod) (vp ve : Value) (s' : List UInt8) (ok' : Bool) (wc : World), wc = w3 ∧ wc.heap[N]? = some (.cells #[.int .i64 n.kind, S n.data, vp, ve] 36 (0, 0)) ∧ wc.heap[w.heap.size]? = some (.cells #[.int .i64 0, .string ⟨#[]⟩, .slice none 0 0, .slice none 0 0] 36 (0, 0)) ∧ RdAt wc g s' ok' ∧ NodRow wc n vp ve ∧ ((∀ j, vp.ownBlock = some j → N ≤ j) ∧ (∀ j, ve.ownBlock = some j → N ≤ j)) ∧ Hid (Gro g w wc) ∧ Hid (ParseSt s n s' ok') :=
          ⟨⟨(c.toNat : Nat), [], [], []⟩, .slice none 0 0, .slice none 0 0, s1, ok1, _, rfl, hn3, hz3, HR3.out, ⟨Row.nil _ _, Row.nil _ _⟩, ⟨(fun j hj => by simp [Value.ownBlock] at hj), (fun j hj => by simp [Value.ownBlock] at hj)⟩, HG3, HPS0⟩
        clear HPS0 c1 c2 c3
        go_upto_region 9 with fail
        rw [← hwc]
        clear hwc hn3 hz3 hb3 HR3 HG3 HEV3 HP2 g0 g1 d0 d1 p0 p1 n0 n1 n2 n3 m0 m1 m2 m3 k0 k1 k2 k3
  all_goals
    clear e1 hcw
    obtain ⟨ev, hb, hev⟩ := id hrc
    obtain ⟨va, vc, rfl⟩ := row_slice hrow.parts
    obtain ⟨ua, uc, rfl⟩ := row_slice hrow.ents
    have hvz : ∀ j, (Value.slice va n.parts.length vc).ownBlock = some j → w.heap.size ≠ j := fun j hj => by have := hvb.1 j hj; omega
    have hvz2 : ∀ j, (Value.slice ua n.ents.length uc).ownBlock = some j → w.heap.size ≠ j := fun j hj => by have := hvb.2 j hj; omega
    have hvg : ∀ j, (Value.slice va n.parts.length vc).ownBlock = some j → g ≠ j := fun j hj => by have := hvb.1 j hj; omega
    have hvg2 : ∀ j, (Value.slice ua n.ents.length uc).ownBlock = some j → g ≠ j := fun j hj => by have := hvb.2 j hj; omega
    obtain ⟨⟨g0, g1⟩, -, -⟩ := box2 hb
    obtain ⟨⟨n0, n1, n2, n3⟩, -, -⟩ := box4 hnc
    have HVW := Lib.hid (show (∀ j, (Value.slice va n.parts.length vc).ownBlock = some j → w.heap.size ≤ j) ∧ (∀ j, (Value.slice ua n.ents.length uc).ownBlock = some j → w.heap.size ≤ j) from ⟨fun j hj => by have := hvb.1 j hj; omega, fun j hj => by have := hvb.2 j hj; omega⟩)
    clear hvb hrc
    rcases hev with ⟨rfl, rfl⟩ | ⟨rfl, b, rfl⟩
    case' inr =>
      have HRES := Lib.hid (show readN s = (zNod, 2) by unfold readN; rw [HPS.out.no rfl])
      have hNw := hnc
      have hZw := hzc
      have hRw := hb
      have HROWw := Lib.hid hrow
      have HGw := HGC
      clear hnc hzc hb hrow HGC HPS
      obtain ⟨w7, hw7, hN7, hZ7, hR7, HROW7, HG7⟩ : ∃ w7 : World, w7 = { wc with drawn := wc.drawn + 1 } ∧ w7.heap[N]? = wc.heap[N]? ∧ w7.heap[w.heap.size]? = wc.heap[w.heap.size]? ∧ w7.heap[g]? = wc.heap[g]? ∧ Hid (NodRow w7 n (.slice va n.parts.length vc) (.slice ua n.ents.length uc)) ∧ Hid (Gro g w w7) :=
        ⟨_, rfl, rfl, rfl, rfl, Lib.hid (HROWw.out.below ⟨rfl, rfl, rfl, Nat.le_refl _, fun _ _ => rfl⟩), Lib.hid (gro_chain HGw.out ⟨rfl, rfl, rfl, Nat.le_refl _, fun _ _ => rfl⟩)⟩
      rw [hNw] at hN7
      rw [hZw] at hZ7
      rw [hRw] at hR7
      go_upto_region 11 with fail
      (refine wp_region_held (S := fun w' => w'.heap[N]? = some (.cells #[.int .i64 n.kind, S n.data, .slice va n.parts.length vc, .slice ua n.ents.length uc] 36 (0, 0)) ∧ w'.heap[g]? = some (.cells #[S s', .iface 133 (.pointer (some ⟨b, 0, none⟩))] 131 (0, 0))) (by kernel_rfl) ?_)
      rw [← hw7]
      clear hw7
      (refine wpAnyH_take (i := 0) (v := ?_) rfl (by kernel_rfl) (by kernel_rfl) (by kernel_rfl) (fun _ _ _ h => h) (Or.inl ⟨by rfl, ?_⟩) (by exact ⟨hN7, hR7⟩) ?_; rotate_left; (intro w9 hS9; (obtain ⟨⟨x0, x1, x2, x3⟩, -, -⟩ := box4 hS9.1); go_simp; try with_reducible rfl))
      (refine wpAnyH_take (i := 1) (v := ?_) rfl (by kernel_rfl) (by kernel_rfl) (by kernel_rfl) (fun _ _ _ h => h) (Or.inl ⟨by rfl, ?_⟩) (by exact ⟨hN7, hR7⟩) ?_; rotate_left; (intro w9 hS9; skip; go_simp; try with_reducible rfl))
      (refine wpAnyH_take (i := 2) (v := ?_) rfl (by kernel_rfl) (by kernel_rfl) (by kernel_rfl) (fun _ _ _ h => h) (Or.inl ⟨by rfl, ?_⟩) (by exact ⟨hN7, hR7⟩) ?_; rotate_left; (intro w9 hS9; skip; go_simp; try with_reducible rfl))
      (refine wpAnyH_take (i := 3) (v := ?_) rfl (by kernel_rfl) (by kernel_rfl) (by kernel_rfl) (fun _ _ _ h => h) (Or.inl ⟨by rfl, ?_⟩) (by exact ⟨hN7, hR7⟩) ?_; rotate_left; (intro w9 hS9; skip; go_simp; try with_reducible rfl))
      (refine wpAnyH_take (i := 4) (v := ?_) rfl (by kernel_rfl) (by kernel_rfl) (by kernel_rfl) (fun _ _ _ h => h) (Or.inl ⟨by rfl, ?_⟩) (by exact ⟨hN7, hR7⟩) ?_; rotate_left; (intro w9 hS9; (obtain ⟨⟨y0, y1⟩, -, -⟩ := box2 hS9.2); go_simp; try with_reducible rfl))
      obtain ⟨⟨c0, c1, c2, c3⟩, ⟨f0, f1, f2, f3⟩, ⟨q0, q1, q2, q3⟩⟩ := box4 hZ7
      have hnz : N ≠ w.heap.size := by omega
      have hgz : g ≠ w.heap.size := by omega
      (refine wpAnyH_one (i := 5) (by kernel_rfl) rfl (fun K hK => ?_); go_simp; refine hK _ _ (⟨(Below.heap_setCell _ _ _ _ hnz).trans ((Below.heap_setCell _ _ _ _ hnz).trans ((Below.heap_setCell _ _ _ _ hnz).trans ((Below.heap_setCell _ _ _ _ hnz).trans hN7))), (Below.heap_setCell _ _ _ _ hgz).trans ((Below.heap_setCell _ _ _ _ hgz).trans ((Below.heap_setCell _ _ _ _ hgz).trans ((Below.heap_setCell _ _ _ _ hgz).trans hR7)))⟩) ?_; clear hK K)
      (refine wpAnyH_one (i := 6) (by kernel_rfl) rfl (fun K hK => ?_); go_simp; refine hK _ _ (⟨(Below.heap_setCell _ _ _ _ hnz).trans ((Below.heap_setCell _ _ _ _ hnz).trans ((Below.heap_setCell _ _ _ _ hnz).trans ((Below.heap_setCell _ _ _ _ hnz).trans hN7))), (Below.heap_setCell _ _ _ _ hgz).trans ((Below.heap_setCell _ _ _ _ hgz).trans ((Below.heap_setCell _ _ _ _ hgz).trans ((Below.heap_setCell _ _ _ _ hgz).trans hR7)))⟩) ?_; clear hK K)
      (refine wpAnyH_done (by kernel_rfl) ?_ _)
      have hZl := hZ7
      obtain ⟨w9, hw9, hz9, hrow9, HG9⟩ : ∃ w9, w9 = (((w7.setCell ⟨w.heap.size, 0, none⟩ (.int .i64 n.kind)).setCell ⟨w.heap.size, 1, none⟩ (S n.data)).setCell ⟨w.heap.size, 2, none⟩ (.slice va n.parts.length vc)).setCell ⟨w.heap.size, 3, none⟩ (.slice ua n.ents.length uc) ∧ w9.heap[w.heap.size]? = some (.cells #[.int .i64 n.kind, S n.data, .slice va n.parts.length vc, .slice ua n.ents.length uc] 36 (0, 0)) ∧ NodRow w9 n (.slice va n.parts.length vc) (.slice ua n.ents.length uc) ∧ Hid (Gro g w w9) :=
        ⟨_, rfl, heap_set_cell (heap_set_cell (heap_set_cell (heap_set_cell hZl _) _) _) _,
          nod_other (nod_other (nod_other (nod_other HROW7.out hvz hvz2 _ _) hvz hvz2 _ _) hvz hvz2 _ _) hvz hvz2 _ _,
          Lib.hid (gro_other (gro_other (gro_other (gro_other HG7.out (Nat.le_refl _) _ _) (Nat.le_refl _) _ _) (Nat.le_refl _) _ _) (Nat.le_refl _) _ _)⟩
      rw [← hw9]
      clear hw9 c0 c1 c2 c3 f0 f1 f2 f3 q0 q1 q2 q3 hZl
      obtain ⟨⟨x0, x1, x2, x3⟩, -, -⟩ := box4 hz9
      clear hz9
      go_wp2
      refine bodyPost_ret (v := .tuple #[NodV n (.slice va n.parts.length vc) (.slice ua n.ents.length uc), .iface 133 (.pointer (some ⟨b, 0, none⟩))]) (by simp [results, Tryz.results80, go_sem, x0, x1, x2, x3]) rfl ?_
      exact ⟨n, _, _, .iface 133 (.pointer (some ⟨b, 0, none⟩)), false, rfl, .inr ⟨rfl, _, rfl⟩, hrow9, HVW.out, HG9.out, (fun e => (by cases e)), (fun _ => HRES.out)⟩
    case' inl =>
      have hsm := HPS.out.small rfl
      cases s' with
      | cons x s' =>
        have hne : ((x :: s') != ([] : List UInt8)) = true := rfl
        have HRES := Lib.hid (show readN s = (zNod, 2) by
          unfold readN
          rcases HPS.out.yes rfl with h | ⟨_, h⟩
          · rw [h]; simp only; rw [if_neg (by simp)]
          · rw [h])
        have hnB := hnc
        have hzB := hzc
        have hgB := hb
        have hrB := hrow
        have HGB := HGC
        clear hnc hzc hb hrow HGC HPS
        go_wp2_with fail
        refine (must_walk 2 wc).mono ?_
        rintro e w5 ⟨ev5, rfl, he5, hb5⟩
        rcases he5 with ⟨he5, -⟩ | ⟨-, b5, rfl⟩
        · cases he5
        have hg5 := (hb5.block _ (heap_lt hgB)).trans hgB
        obtain ⟨⟨i0, i1⟩, ⟨j0, j1⟩, ⟨r0, r1⟩⟩ := box2 hg5
        obtain ⟨w6, hw6, hNw, hZw, hRw, HROWw, HGw⟩ : ∃ w6, w6 = w5.setCell ⟨g, 1, none⟩ (.iface 133 (.pointer (some ⟨b5, 0, none⟩))) ∧ w6.heap[N]? = some (.cells #[.int .i64 n.kind, S n.data, .slice va n.parts.length vc, .slice ua n.ents.length uc] 36 (0, 0)) ∧ w6.heap[w.heap.size]? = some (.cells #[.int .i64 0, .string ⟨#[]⟩, .slice none 0 0, .slice none 0 0] 36 (0, 0)) ∧ w6.heap[g]? = some (.cells #[S (x :: s'), .iface 133 (.pointer (some ⟨b5, 0, none⟩))] 131 (0, 0)) ∧ Hid (NodRow w6 n (.slice va n.parts.length vc) (.slice ua n.ents.length uc)) ∧ Hid (Gro g w w6) :=
          ⟨_, rfl, (Below.heap_setCell _ _ _ _ hNg).trans ((hb5.block _ (heap_lt hnB)).trans hnB), (Below.heap_setCell _ _ _ _ (show w.heap.size ≠ g by omega)).trans ((hb5.block _ (heap_lt hzB)).trans hzB), rd_set1 hg5,
            Lib.hid (nod_other (hrB.below hb5) hvg hvg2 _ _), Lib.hid (gro_set (gro_chain HGB.out hb5) 1 _)⟩
        have hdone := hw6
        go_upto_region 11 with fail
        rw [← hw6]
        clear hw6 hdone i0 i1 j0 j1 r0 r1 hg5 hb5
        obtain ⟨w7, hw7, hN7, hZ7, hR7, HROW7, HG7⟩ : ∃ w7 : World, w7 = { w6 with drawn := w6.drawn + 1 } ∧ w7.heap[N]? = w6.heap[N]? ∧ w7.heap[w.heap.size]? = w6.heap[w.heap.size]? ∧ w7.heap[g]? = w6.heap[g]? ∧ Hid (NodRow w7 n (.slice va n.parts.length vc) (.slice ua n.ents.length uc)) ∧ Hid (Gro g w w7) :=
          ⟨_, rfl, rfl, rfl, rfl, Lib.hid (HROWw.out.below ⟨rfl, rfl, rfl, Nat.le_refl _, fun _ _ => rfl⟩), Lib.hid (gro_chain HGw.out ⟨rfl, rfl, rfl, Nat.le_refl _, fun _ _ => rfl⟩)⟩
        rw [hNw] at hN7
        rw [hZw] at hZ7
        rw [hRw] at hR7
        go_upto_region 11 with fail
        (refine wp_region_held (S := fun w' => w'.heap[N]? = some (.cells #[.int .i64 n.kind, S n.data, .slice va n.parts.length vc, .slice ua n.ents.length uc] 36 (0, 0)) ∧ w'.heap[g]? = some (.cells #[S (x :: s'), .iface 133 (.pointer (some ⟨b5, 0, none⟩))] 131 (0, 0))) (by kernel_rfl) ?_)
        rw [← hw7]
        clear hw7
        (refine wpAnyH_take (i := 0) (v := ?_) rfl (by kernel_rfl) (by kernel_rfl) (by kernel_rfl) (fun _ _ _ h => h) (Or.inl ⟨by rfl, ?_⟩) (by exact ⟨hN7, hR7⟩) ?_; rotate_left; (intro w9 hS9; (obtain ⟨⟨x0, x1, x2, x3⟩, -, -⟩ := box4 hS9.1); go_simp; try with_reducible rfl))
        (refine wpAnyH_take (i := 1) (v := ?_) rfl (by kernel_rfl) (by kernel_rfl) (by kernel_rfl) (fun _ _ _ h => h) (Or.inl ⟨by rfl, ?_⟩) (by exact ⟨hN7, hR7⟩) ?_; rotate_left; (intro w9 hS9; skip; go_simp; try with_reducible rfl))
        (refine wpAnyH_take (i := 2) (v := ?_) rfl (by kernel_rfl) (by kernel_rfl) (by kernel_rfl) (fun _ _ _ h => h) (Or.inl ⟨by rfl, ?_⟩) (by exact ⟨hN7, hR7⟩) ?_; rotate_left; (intro w9 hS9; skip; go_simp; try with_reducible rfl))
        (refine wpAnyH_take (i := 3) (v := ?_) rfl (by kernel_rfl) (by kernel_rfl) (by kernel_rfl) (fun _ _ _ h => h) (Or.inl ⟨by rfl, ?_⟩) (by exact ⟨hN7, hR7⟩) ?_; rotate_left; (intro w9 hS9; skip; go_simp; try with_reducible rfl))
        (refine wpAnyH_take (i := 4) (v := ?_) rfl (by kernel_rfl) (by kernel_rfl) (by kernel_rfl) (fun _ _ _ h => h) (Or.inl ⟨by rfl, ?_⟩) (by exact ⟨hN7, hR7⟩) ?_; rotate_left; (intro w9 hS9; (obtain ⟨⟨y0, y1⟩, -, -⟩ := box2 hS9.2); go_simp; try with_reducible rfl))
        obtain ⟨⟨c0, c1, c2, c3⟩, ⟨f0, f1, f2, f3⟩, ⟨q0, q1, q2, q3⟩⟩ := box4 hZ7
        have hnz : N ≠ w.heap.size := by omega
        have hgz : g ≠ w.heap.size := by omega
        (refine wpAnyH_one (i := 5) (by kernel_rfl) rfl (fun K hK => ?_); go_simp; refine hK _ _ (⟨(Below.heap_setCell _ _ _ _ hnz).trans ((Below.heap_setCell _ _ _ _ hnz).trans ((Below.heap_setCell _ _ _ _ hnz).trans ((Below.heap_setCell _ _ _ _ hnz).trans hN7))), (Below.heap_setCell _ _ _ _ hgz).trans ((Below.heap_setCell _ _ _ _ hgz).trans ((Below.heap_setCell _ _ _ _ hgz).trans ((Below.heap_setCell _ _ _ _ hgz).trans hR7)))⟩) ?_; clear hK K)
        (refine wpAnyH_one (i := 6) (by kernel_rfl) rfl (fun K hK => ?_); go_simp; refine hK _ _ (⟨(Below.heap_setCell _ _ _ _ hnz).trans ((Below.heap_setCell _ _ _ _ hnz).trans ((Below.heap_setCell _ _ _ _ hnz).trans ((Below.heap_setCell _ _ _ _ hnz).trans hN7))), (Below.heap_setCell _ _ _ _ hgz).trans ((Below.heap_setCell _ _ _ _ hgz).trans ((Below.heap_setCell _ _ _ _ hgz).trans ((Below.heap_setCell _ _ _ _ hgz).trans hR7)))⟩) ?_; clear hK K)
        (refine wpAnyH_done (by kernel_rfl) ?_ _)
        have hZl := hZ7
        obtain ⟨w9, hw9, hz9, hrow9, HG9⟩ : ∃ w9, w9 = (((w7.setCell ⟨w.heap.size, 0, none⟩ (.int .i64 n.kind)).setCell ⟨w.heap.size, 1, none⟩ (S n.data)).setCell ⟨w.heap.size, 2, none⟩ (.slice va n.parts.length vc)).setCell ⟨w.heap.size, 3, none⟩ (.slice ua n.ents.length uc) ∧ w9.heap[w.heap.size]? = some (.cells #[.int .i64 n.kind, S n.data, .slice va n.parts.length vc, .slice ua n.ents.length uc] 36 (0, 0)) ∧ NodRow w9 n (.slice va n.parts.length vc) (.slice ua n.ents.length uc) ∧ Hid (Gro g w w9) :=
          ⟨_, rfl, heap_set_cell (heap_set_cell (heap_set_cell (heap_set_cell hZl _) _) _) _,
            nod_other (nod_other (nod_other (nod_other HROW7.out hvz hvz2 _ _) hvz hvz2 _ _) hvz hvz2 _ _) hvz hvz2 _ _,
            Lib.hid (gro_other (gro_other (gro_other (gro_other HG7.out (Nat.le_refl _) _ _) (Nat.le_refl _) _ _) (Nat.le_refl _) _ _) (Nat.le_refl _) _ _)⟩
        rw [← hw9]
        clear hw9 c0 c1 c2 c3 f0 f1 f2 f3 q0 q1 q2 q3 hZl
        obtain ⟨⟨x0, x1, x2, x3⟩, -, -⟩ := box4 hz9
        clear hz9
        go_wp2
        refine bodyPost_ret (v := .tuple #[NodV n (.slice va n.parts.length vc) (.slice ua n.ents.length uc), .iface 133 (.pointer (some ⟨b5, 0, none⟩))]) (by simp [results, Tryz.results80, go_sem, x0, x1, x2, x3]) rfl ?_
        exact ⟨n, _, _, .iface 133 (.pointer (some ⟨b5, 0, none⟩)), false, rfl, .inr ⟨rfl, _, rfl⟩, hrow9, HVW.out, HG9.out, (fun e => (by cases e)), (fun _ => HRES.out)⟩
      | nil =>
        have CF := pfit11_walk (.slice va n.parts.length vc) (.slice ua n.ents.length uc) n wc hrow (by omega) (by omega) (by omega) (fun e he => by have := hsm.2.2.2 e he; omega)
        cases hfit : fitN n with
        | false =>
          rw [hfit] at CF
          have HRES := Lib.hid (show readN s = (zNod, 2) by
            unfold readN
            rcases HPS.out.yes rfl with h | ⟨_, h⟩
            · rw [h]; simp only; rw [if_neg (by simp [hfit])]
            · rw [h])
          clear hfit
          go_wp2_with fail
          refine CF.mono ?_
          rintro e w4' ⟨rfl, hb4'⟩
          have hnB := (hb4'.block _ (heap_lt hnc)).trans hnc
          have hzB := (hb4'.block _ (heap_lt hzc)).trans hzc
          have hgB := (hb4'.block _ (heap_lt hb)).trans hb
          have hrB := hrow.below hb4'
          have HGB := Lib.hid (gro_chain HGC.out hb4')
          clear CF hnc hzc hb hrow HGC HPS n0 n1 n2 n3 g0 g1
          go_wp2_with fail
          refine (must_walk 2 w4').mono ?_
          rintro e w5 ⟨ev5, rfl, he5, hb5⟩
          rcases he5 with ⟨he5, -⟩ | ⟨-, b5, rfl⟩
          · cases he5
          have hg5 := (hb5.block _ (heap_lt hgB)).trans hgB
          obtain ⟨⟨i0, i1⟩, ⟨j0, j1⟩, ⟨r0, r1⟩⟩ := box2 hg5
          obtain ⟨w6, hw6, hNw, hZw, hRw, HROWw, HGw⟩ : ∃ w6, w6 = w5.setCell ⟨g, 1, none⟩ (.iface 133 (.pointer (some ⟨b5, 0, none⟩))) ∧ w6.heap[N]? = some (.cells #[.int .i64 n.kind, S n.data, .slice va n.parts.length vc, .slice ua n.ents.length uc] 36 (0, 0)) ∧ w6.heap[w.heap.size]? = some (.cells #[.int .i64 0, .string ⟨#[]⟩, .slice none 0 0, .slice none 0 0] 36 (0, 0)) ∧ w6.heap[g]? = some (.cells #[S [], .iface 133 (.pointer (some ⟨b5, 0, none⟩))] 131 (0, 0)) ∧ Hid (NodRow w6 n (.slice va n.parts.length vc) (.slice ua n.ents.length uc)) ∧ Hid (Gro g w w6) :=
            ⟨_, rfl, (Below.heap_setCell _ _ _ _ hNg).trans ((hb5.block _ (heap_lt hnB)).trans hnB), (Below.heap_setCell _ _ _ _ (show w.heap.size ≠ g by omega)).trans ((hb5.block _ (heap_lt hzB)).trans hzB), rd_set1 hg5,
              Lib.hid (nod_other (hrB.below hb5) hvg hvg2 _ _), Lib.hid (gro_set (gro_chain HGB.out hb5) 1 _)⟩
          have hdone := hw6
          go_upto_region 11 with fail
          rw [← hw6]
          clear hw6 hdone i0 i1 j0 j1 r0 r1 hg5 hb5
          obtain ⟨w7, hw7, hN7, hZ7, hR7, HROW7, HG7⟩ : ∃ w7 : World, w7 = { w6 with drawn := w6.drawn + 1 } ∧ w7.heap[N]? = w6.heap[N]? ∧ w7.heap[w.heap.size]? = w6.heap[w.heap.size]? ∧ w7.heap[g]? = w6.heap[g]? ∧ Hid (NodRow w7 n (.slice va n.parts.length vc) (.slice ua n.ents.length uc)) ∧ Hid (Gro g w w7) :=
            ⟨_, rfl, rfl, rfl, rfl, Lib.hid (HROWw.out.below ⟨rfl, rfl, rfl, Nat.le_refl _, fun _ _ => rfl⟩), Lib.hid (gro_chain HGw.out ⟨rfl, rfl, rfl, Nat.le_refl _, fun _ _ => rfl⟩)⟩
          rw [hNw] at hN7
          rw [hZw] at hZ7
          rw [hRw] at hR7
          go_upto_region 11 with fail
          (refine wp_region_held (S := fun w' => w'.heap[N]? = some (.cells #[.int .i64 n.kind, S n.data, .slice va n.parts.length vc, .slice ua n.ents.length uc] 36 (0, 0)) ∧ w'.heap[g]? = some (.cells #[S [], .iface 133 (.pointer (some ⟨b5, 0, none⟩))] 131 (0, 0))) (by kernel_rfl) ?_)
          rw [← hw7]
          clear hw7
          (refine wpAnyH_take (i := 0) (v := ?_) rfl (by kernel_rfl) (by kernel_rfl) (by kernel_rfl) (fun _ _ _ h => h) (Or.inl ⟨by rfl, ?_⟩) (by exact ⟨hN7, hR7⟩) ?_; rotate_left; (intro w9 hS9; (obtain ⟨⟨x0, x1, x2, x3⟩, -, -⟩ := box4 hS9.1); go_simp; try with_reducible rfl))
          (refine wpAnyH_take (i := 1) (v := ?_) rfl (by kernel_rfl) (by kernel_rfl) (by kernel_rfl) (fun _ _ _ h => h) (Or.inl ⟨by rfl, ?_⟩) (by exact ⟨hN7, hR7⟩) ?_; rotate_left; (intro w9 hS9; skip; go_simp; try with_reducible rfl))
          (refine wpAnyH_take (i := 2) (v := ?_) rfl (by kernel_rfl) (by kernel_rfl) (by kernel_rfl) (fun _ _ _ h => h) (Or.inl ⟨by rfl, ?_⟩) (by exact ⟨hN7, hR7⟩) ?_; rotate_left; (intro w9 hS9; skip; go_simp; try with_reducible rfl))
          (refine wpAnyH_take (i := 3) (v := ?_) rfl (by kernel_rfl) (by kernel_rfl) (by kernel_rfl) (fun _ _ _ h => h) (Or.inl ⟨by rfl, ?_⟩) (by exact ⟨hN7, hR7⟩) ?_; rotate_left; (intro w9 hS9; skip; go_simp; try with_reducible rfl))
          (refine wpAnyH_take (i := 4) (v := ?_) rfl (by kernel_rfl) (by kernel_rfl) (by kernel_rfl) (fun _ _ _ h => h) (Or.inl ⟨by rfl, ?_⟩) (by exact ⟨hN7, hR7⟩) ?_; rotate_left; (intro w9 hS9; (obtain ⟨⟨y0, y1⟩, -, -⟩ := box2 hS9.2); go_simp; try with_reducible rfl))
          obtain ⟨⟨c0, c1, c2, c3⟩, ⟨f0, f1, f2, f3⟩, ⟨q0, q1, q2, q3⟩⟩ := box4 hZ7
          have hnz : N ≠ w.heap.size := by omega
          have hgz : g ≠ w.heap.size := by omega
          (refine wpAnyH_one (i := 5) (by kernel_rfl) rfl (fun K hK => ?_); go_simp; refine hK _ _ (⟨(Below.heap_setCell _ _ _ _ hnz).trans ((Below.heap_setCell _ _ _ _ hnz).trans ((Below.heap_setCell _ _ _ _ hnz).trans ((Below.heap_setCell _ _ _ _ hnz).trans hN7))), (Below.heap_setCell _ _ _ _ hgz).trans ((Below.heap_setCell _ _ _ _ hgz).trans ((Below.heap_setCell _ _ _ _ hgz).trans ((Below.heap_setCell _ _ _ _ hgz).trans hR7)))⟩) ?_; clear hK K)
          (refine wpAnyH_one (i := 6) (by kernel_rfl) rfl (fun K hK => ?_); go_simp; refine hK _ _ (⟨(Below.heap_setCell _ _ _ _ hnz).trans ((Below.heap_setCell _ _ _ _ hnz).trans ((Below.heap_setCell _ _ _ _ hnz).trans ((Below.heap_setCell _ _ _ _ hnz).trans hN7))), (Below.heap_setCell _ _ _ _ hgz).trans ((Below.heap_setCell _ _ _ _ hgz).trans ((Below.heap_setCell _ _ _ _ hgz).trans ((Below.heap_setCell _ _ _ _ hgz).trans hR7)))⟩) ?_; clear hK K)
          (refine wpAnyH_done (by kernel_rfl) ?_ _)
          have hZl := hZ7
          obtain ⟨w9, hw9, hz9, hrow9, HG9⟩ : ∃ w9, w9 = (((w7.setCell ⟨w.heap.size, 0, none⟩ (.int .i64 n.kind)).setCell ⟨w.heap.size, 1, none⟩ (S n.data)).setCell ⟨w.heap.size, 2, none⟩ (.slice va n.parts.length vc)).setCell ⟨w.heap.size, 3, none⟩ (.slice ua n.ents.length uc) ∧ w9.heap[w.heap.size]? = some (.cells #[.int .i64 n.kind, S n.data, .slice va n.parts.length vc, .slice ua n.ents.length uc] 36 (0, 0)) ∧ NodRow w9 n (.slice va n.parts.length vc) (.slice ua n.ents.length uc) ∧ Hid (Gro g w w9) :=
            ⟨_, rfl, heap_set_cell (heap_set_cell (heap_set_cell (heap_set_cell hZl _) _) _) _,
              nod_other (nod_other (nod_other (nod_other HROW7.out hvz hvz2 _ _) hvz hvz2 _ _) hvz hvz2 _ _) hvz hvz2 _ _,
              Lib.hid (gro_other (gro_other (gro_other (gro_other HG7.out (Nat.le_refl _) _ _) (Nat.le_refl _) _ _) (Nat.le_refl _) _ _) (Nat.le_refl _) _ _)⟩
          rw [← hw9]
          clear hw9 c0 c1 c2 c3 f0 f1 f2 f3 q0 q1 q2 q3 hZl
          obtain ⟨⟨x0, x1, x2, x3⟩, -, -⟩ := box4 hz9
          clear hz9
          go_wp2
          refine bodyPost_ret (v := .tuple #[NodV n (.slice va n.parts.length vc) (.slice ua n.ents.length uc), .iface 133 (.pointer (some ⟨b5, 0, none⟩))]) (by simp [results, Tryz.results80, go_sem, x0, x1, x2, x3]) rfl ?_
          exact ⟨n, _, _, .iface 133 (.pointer (some ⟨b5, 0, none⟩)), false, rfl, .inr ⟨rfl, _, rfl⟩, hrow9, HVW.out, HG9.out, (fun e => (by cases e)), (fun _ => HRES.out)⟩
        | true =>
          rw [hfit] at CF
          have HRES := Lib.hid (show readN s = (n, 0) by
            unfold readN
            rcases HPS.out.yes rfl with h | ⟨h, _⟩
            · rw [h]; simp only; rw [if_pos (by simp [hfit])]
            · rw [hfit] at h; cases h)
          clear hfit
          go_wp2_with fail
          refine CF.mono ?_
          rintro e w4' ⟨rfl, hb4'⟩
          have hNw := (hb4'.block _ (heap_lt hnc)).trans hnc
          have hZw := (hb4'.block _ (heap_lt hzc)).trans hzc
          have hRw := (hb4'.block _ (heap_lt hb)).trans hb
          have HROWw := Lib.hid (hrow.below hb4')
          have HGw := Lib.hid (gro_chain HGC.out hb4')
          clear CF hnc hzc hb hrow HGC HPS n0 n1 n2 n3 g0 g1 hb4'
          obtain ⟨w7, hw7, hN7, hZ7, hR7, HROW7, HG7⟩ : ∃ w7 : World, w7 = { w4' with drawn := w4'.drawn + 1 } ∧ w7.heap[N]? = w4'.heap[N]? ∧ w7.heap[w.heap.size]? = w4'.heap[w.heap.size]? ∧ w7.heap[g]? = w4'.heap[g]? ∧ Hid (NodRow w7 n (.slice va n.parts.length vc) (.slice ua n.ents.length uc)) ∧ Hid (Gro g w w7) :=
            ⟨_, rfl, rfl, rfl, rfl, Lib.hid (HROWw.out.below ⟨rfl, rfl, rfl, Nat.le_refl _, fun _ _ => rfl⟩), Lib.hid (gro_chain HGw.out ⟨rfl, rfl, rfl, Nat.le_refl _, fun _ _ => rfl⟩)⟩
          rw [hNw] at hN7
          rw [hZw] at hZ7
          rw [hRw] at hR7
          go_upto_region 11 with fail
          (refine wp_region_held (S := fun w' => w'.heap[N]? = some (.cells #[.int .i64 n.kind, S n.data, .slice va n.parts.length vc, .slice ua n.ents.length uc] 36 (0, 0)) ∧ w'.heap[g]? = some (.cells #[S [], .nilIface] 131 (0, 0))) (by kernel_rfl) ?_)
          rw [← hw7]
          clear hw7
          (refine wpAnyH_take (i := 0) (v := ?_) rfl (by kernel_rfl) (by kernel_rfl) (by kernel_rfl) (fun _ _ _ h => h) (Or.inl ⟨by rfl, ?_⟩) (by exact ⟨hN7, hR7⟩) ?_; rotate_left; (intro w9 hS9; (obtain ⟨⟨x0, x1, x2, x3⟩, -, -⟩ := box4 hS9.1); go_simp; try with_reducible rfl))
          (refine wpAnyH_take (i := 1) (v := ?_) rfl (by kernel_rfl) (by kernel_rfl) (by kernel_rfl) (fun _ _ _ h => h) (Or.inl ⟨by rfl, ?_⟩) (by exact ⟨hN7, hR7⟩) ?_; rotate_left; (intro w9 hS9; skip; go_simp; try with_reducible rfl))
          (refine wpAnyH_take (i := 2) (v := ?_) rfl (by kernel_rfl) (by kernel_rfl) (by kernel_rfl) (fun _ _ _ h => h) (Or.inl ⟨by rfl, ?_⟩) (by exact ⟨hN7, hR7⟩) ?_; rotate_left; (intro w9 hS9; skip; go_simp; try with_reducible rfl))
          (refine wpAnyH_take (i := 3) (v := ?_) rfl (by kernel_rfl) (by kernel_rfl) (by kernel_rfl) (fun _ _ _ h => h) (Or.inl ⟨by rfl, ?_⟩) (by exact ⟨hN7, hR7⟩) ?_; rotate_left; (intro w9 hS9; skip; go_simp; try with_reducible rfl))
          (refine wpAnyH_take (i := 4) (v := ?_) rfl (by kernel_rfl) (by kernel_rfl) (by kernel_rfl) (fun _ _ _ h => h) (Or.inl ⟨by rfl, ?_⟩) (by exact ⟨hN7, hR7⟩) ?_; rotate_left; (intro w9 hS9; (obtain ⟨⟨y0, y1⟩, -, -⟩ := box2 hS9.2); go_simp; try with_reducible rfl))
          obtain ⟨⟨c0, c1, c2, c3⟩, ⟨f0, f1, f2, f3⟩, ⟨q0, q1, q2, q3⟩⟩ := box4 hZ7
          have hnz : N ≠ w.heap.size := by omega
          have hgz : g ≠ w.heap.size := by omega
          (refine wpAnyH_one (i := 5) (by kernel_rfl) rfl (fun K hK => ?_); go_simp; refine hK _ _ (⟨(Below.heap_setCell _ _ _ _ hnz).trans ((Below.heap_setCell _ _ _ _ hnz).trans ((Below.heap_setCell _ _ _ _ hnz).trans ((Below.heap_setCell _ _ _ _ hnz).trans hN7))), (Below.heap_setCell _ _ _ _ hgz).trans ((Below.heap_setCell _ _ _ _ hgz).trans ((Below.heap_setCell _ _ _ _ hgz).trans ((Below.heap_setCell _ _ _ _ hgz).trans hR7)))⟩) ?_; clear hK K)
          (refine wpAnyH_one (i := 6) (by kernel_rfl) rfl (fun K hK => ?_); go_simp; refine hK _ _ (⟨(Below.heap_setCell _ _ _ _ hnz).trans ((Below.heap_setCell _ _ _ _ hnz).trans ((Below.heap_setCell _ _ _ _ hnz).trans ((Below.heap_setCell _ _ _ _ hnz).trans hN7))), (Below.heap_setCell _ _ _ _ hgz).trans ((Below.heap_setCell _ _ _ _ hgz).trans ((Below.heap_setCell _ _ _ _ hgz).trans ((Below.heap_setCell _ _ _ _ hgz).trans hR7)))⟩) ?_; clear hK K)
          (refine wpAnyH_done (by kernel_rfl) ?_ _)
          have hZl := hZ7
          obtain ⟨w9, hw9, hz9, hrow9, HG9⟩ : ∃ w9, w9 = (((w7.setCell ⟨w.heap.size, 0, none⟩ (.int .i64 n.kind)).setCell ⟨w.heap.size, 1, none⟩ (S n.data)).setCell ⟨w.heap.size, 2, none⟩ (.slice va n.parts.length vc)).setCell ⟨w.heap.size, 3, none⟩ (.slice ua n.ents.length uc) ∧ w9.heap[w.heap.size]? = some (.cells #[.int .i64 n.kind, S n.data, .slice va n.parts.length vc, .slice ua n.ents.length uc] 36 (0, 0)) ∧ NodRow w9 n (.slice va n.parts.length vc) (.slice ua n.ents.length uc) ∧ Hid (Gro g w w9) :=
            ⟨_, rfl, heap_set_cell (heap_set_cell (heap_set_cell (heap_set_cell hZl _) _) _) _,
              nod_other (nod_other (nod_other (nod_other HROW7.out hvz hvz2 _ _) hvz hvz2 _ _) hvz hvz2 _ _) hvz hvz2 _ _,
              Lib.hid (gro_other (gro_other (gro_other (gro_other HG7.out (Nat.le_refl _) _ _) (Nat.le_refl _) _ _) (Nat.le_refl _) _ _) (Nat.le_refl _) _ _)⟩
          rw [← hw9]
          clear hw9 c0 c1 c2 c3 f0 f1 f2 f3 q0 q1 q2 q3 hZl
          obtain ⟨⟨x0, x1, x2, x3⟩, -, -⟩ := box4 hz9
          clear hz9
          go_wp2
          refine bodyPost_ret (v := .tuple #[NodV n (.slice va n.parts.length vc) (.slice ua n.ents.length uc), .nilIface]) (by simp [results, Tryz.results80, go_sem, x0, x1, x2, x3]) rfl ?_
          exact ⟨n, _, _, .nilIface, true, rfl, .inl ⟨rfl, rfl⟩, hrow9, HVW.out, HG9.out, (fun _ => HRES.out), (fun e => (by cases e))⟩
end Go.Proofs.YtaompdnnkfmjhaaGreatDoor
