/- The reference's parts: what lies between the slashes. The reference's Split and Fit. The reference's Join and Dir. A tree's items in memory. -/
import Derived.Test.YtbmdoekfbkpaeaaGreatDoorJPlain
import Derived.Test.YtbmdoekfbkpaeaaGreatDoorJNodePlain
import Derived.Test.YtbmdoekfbkpaeaaGreatDoorJTreePlain
namespace Go.Proofs.YtbmdoekfbkpaeaaGreatDoor
open Go.RowKit

theorem byte_ne {c : UInt8} (h : c ≠ 47) : ((c.toNat : Int) == 47) = false := by
  rw [beq_eq_false_iff_ne]; intro e; exact h (UInt8.toNat_inj.1 (by simp; omega))

set_option maxHeartbeats 1100000 in
set_option maxRecDepth 100000 in
theorem rparts_walk (l : List UInt8) (w : World) (hl : l.length ≤ 1100000) :
    Calls Tryz.prog 87 #[S l] w fun e w' => ∃ v, e = .returned v ∧ StrRow w' v (partsL l) ∧ Below w.heap.size w w' := by
  obtain ⟨i0, hi, hz0, hz1, hz2⟩ := info_parts infoStr
  go_enter Tryz.func87, Tryz.ntmps87
  go_wp2
  go_loopw [3, 4, 5] (fun v fr i wr => ∃ (k f : Nat) (dn : List (List UInt8)), i = .int .i64 k ∧ fr = .int .i64 f ∧ wr.ownsRow w.heap.size 9 1 v dn.length (dn.map S) ∧ Below w.heap.size w wr ∧ dn.length ≤ k ∧
      ((k ≤ l.length ∧ f ≤ k ∧ partsL l = dn ++ partsL (l.drop f) ∧ ∀ c ∈ cutL l f k, c ≠ 47) ∨ (k = l.length + 1 ∧ dn = partsL l)))
    (fun _ _ i _ => l.length + 1 - (intOf i).toNat)
  case atStart => exact ⟨0, 0, [], rfl, rfl, World.ownsRow_nil _ _ _ _, Below.refl _ _, Nat.zero_le _, .inl ⟨Nat.zero_le _, Nat.le_refl _, rfl, by rw [cutL_self]; intro c hc; cases hc⟩⟩
  case round =>
    obtain ⟨k, f, dn, rfl, rfl, hown, hB, hdk, hst⟩ := hrel
    rcases hst with ⟨hk, hf, hp, hn⟩ | ⟨hk, hd⟩
    · have HP := Lib.hid hp
      have HNs := Lib.hid hn
      clear hp hn
      have hsz := hB.size
      by_cases hke : k = l.length
      · have HE := Lib.hid (parts_step_end (Nat.le_of_eq hke.symm) HNs.out HP.out)
        have h1 : ((k : Int) == (l.length : Int)) = true := by rw [hke]; simp
        have h2 : (k : Int) ≤ (l.length : Int) := by omega
        have h3 : l.length ≤ k := by omega
        clear hke
        go_wp2_with (at_builtin; refine wpList_append_own _ rfl _ _ 32 rfl w.heap.size 9 i0 (.string ⟨#[]⟩) 1 16 Tryz.underlying32 hi hz0 hz1 hz2 rfl (by decide) _ _ _ rfl (hown.alloc _) ⟨wr.heap.size, 0, none⟩ 1 1 [.string (({ data := l.toArray } : ByteArray).extract f k)] rfl rfl ?c1 ?c2 ?c3 ?c4 ?c5 ?_)
        case c1 => exact new_cell _ _ _
        case c2 => intro u hu; simp at hu; subst hu; rfl
        case c3 => unfold maxLen; omega
        case c4 => omega
        case c5 => simp; omega
        intro v' w1 hown' hgrow _
        have hB1 : Below w.heap.size w w1 := (hB.alloc hsz _).grown hgrow (by simp; omega) (fun j hj => (hown.lt j hj).1)
        have HO := Lib.hid hown'
        clear hown' hgrow hown
        go_wp2
        go_roundw
        case rel =>
          refine ⟨k + 1, k + 1, dn ++ [cutL l f k], by go_num, by go_num, ?_, hB1, by simp; omega, .inr ⟨by omega, HE.out.symm⟩⟩
          have := HO.out
          rw [S_extract] at this
          simpa using this
        case measure => simp [intOf]; omega
      · have hlt : k < l.length := by omega
        have h1 : ((k : Int) == (l.length : Int)) = false := by rw [beq_eq_false_iff_ne]; omega
        have h2 : (k : Int) ≤ (l.length : Int) := by omega
        clear hke
        by_cases hs : l[k] = 47
        · have HE := Lib.hid (parts_step_slash hf hlt hs HNs.out HP.out)
          have hc : (({ data := l.toArray } : ByteArray)[k]'hlt).toNat = 47 := by show (l[k]).toNat = 47; rw [hs]; rfl
          clear hs
          go_wp2_with (at_builtin; refine wpList_append_own _ rfl _ _ 32 rfl w.heap.size 9 i0 (.string ⟨#[]⟩) 1 16 Tryz.underlying32 hi hz0 hz1 hz2 rfl (by decide) _ _ _ rfl (hown.alloc _) ⟨wr.heap.size, 0, none⟩ 1 1 [.string (({ data := l.toArray } : ByteArray).extract f k)] rfl rfl ?d1 ?d2 ?d3 ?d4 ?d5 ?_)
          case d1 => exact new_cell _ _ _
          case d2 => intro u hu; simp at hu; subst hu; rfl
          case d3 => unfold maxLen; omega
          case d4 => omega
          case d5 => simp; omega
          intro v' w1 hown' hgrow _
          have hB1 : Below w.heap.size w w1 := (hB.alloc hsz _).grown hgrow (by simp; omega) (fun j hj => (hown.lt j hj).1)
          have HO := Lib.hid hown'
          clear hown' hgrow hown
          go_wp2
          go_roundw
          case rel =>
            refine ⟨k + 1, k + 1, dn ++ [cutL l f k], by go_num, by go_num, ?_, hB1, by simp; omega, .inl ⟨by omega, Nat.le_refl _, HE.out, by rw [cutL_self]; intro c hc; cases hc⟩⟩
            have := HO.out
            rw [S_extract] at this
            simpa using this
          case measure => simp [intOf]; omega
        · have HE := Lib.hid (noslash_step hf hlt hs HNs.out)
          have hc : (((({ data := l.toArray } : ByteArray)[k]'hlt).toNat : Int) == 47) = false := byte_ne hs
          clear hs
          go_wp2
          go_roundw
          case rel => exact ⟨k + 1, f, dn, by go_num, rfl, hown, hB, by omega, .inl ⟨by omega, by omega, HP.out, HE.out⟩⟩
          case measure => simp [intOf]; omega
    · have h2 : ¬ (k : Int) ≤ (l.length : Int) := by omega
      subst hd
      clear hk
      go_wp2
      go_ret
      exact ⟨_, rfl, StrRow.of_owns hown, hB⟩
end Go.Proofs.YtbmdoekfbkpaeaaGreatDoor

namespace Go.Proofs.YtbmdoekfbkpaeaaGreatDoor
open Go.RowKit

set_option maxHeartbeats 1100000 in
set_option maxRecDepth 100000 in
theorem rsplit_walk (l : List UInt8) (w : World) (hl : l.length ≤ 1100000) :
    Calls Tryz.prog 50 #[S l] w fun e w' => ∃ v, e = .returned v ∧ StrRow w' v (splitL l) ∧ Below w.heap.size w w' := by
  have C := rparts_walk l w hl
  have hlen := partsL_len l
  have hcnt := partsL_count l
  have HS := Lib.hid (show splitL l = if (partsL l).length ≤ 8 ∧ (partsL l).all nameB = true then partsL l else [] from rfl)
  generalize splitL l = sp at HS ⊢
  generalize partsL l = ps at C hlen hcnt HS
  have HL := Lib.hid hlen
  clear hlen
  by_cases h8 : (8 : Int) < (ps.length : Int)
  · obtain rfl : sp = [] := by rw [HS.out, if_neg]; omega
    go_enter Tryz.func50, Tryz.ntmps50
    go_wp2_with (go_at_call 87; refine C.mono ?_; rintro e w1 ⟨v, rfl, ⟨a, c, rfl, hc, hm, hx⟩, hb⟩)
    go_ret
    exact ⟨_, rfl, StrRow.nil _, hb⟩
  · go_enter Tryz.func50, Tryz.ntmps50
    go_wp2_with (go_at_call 87; refine C.mono ?_; rintro e w1 ⟨v, rfl, ⟨a, c, rfl, hc, hm, hx⟩, hb⟩)
    have HX := Lib.hid hx
    have HB := Lib.hid hb
    clear hx hb
    go_loop [4] (fun i => ∃ k : Nat, k ≤ ps.length ∧ i = .int .i64 k ∧ (ps.take k).all nameB = true) (fun i => ps.length - (intOf i).toNat)
    case atStart => exact ⟨0, Nat.zero_le _, rfl, rfl⟩
    case round =>
      obtain ⟨k, hk, rfl, ha⟩ := hrel
      have HA := Lib.hid ha
      clear ha
      by_cases hlt : k < ps.length
      · have hx := HX.out
        rcases hx with hx | ⟨b, o, rfl, hx⟩
        · exfalso; rw [hx] at hlt; simp at hlt
        have hcell := hx k ps[k] (by simp [hlt])
        have hpl : ps[k].length ≤ 1100000 := Nat.le_trans (HL.out _ (List.getElem_mem hlt)) hl
        have C2 := rname_walk ps[k] w1 hpl
        have hcx : k < ps.length → w1.cell? ⟨b, o + k, none⟩ = some (S ps[k]) := fun _ => hcell
        have HT := Lib.hid (allN_take_succ ps k hlt)
        have HBD := Lib.hid (fun h => allN_bad hlt h)
        clear hx hcell
        generalize ps[k] = p at *
        cases hn : nameB p
        · rw [hn] at C2
          have HF := Lib.hid (HBD.out hn)
          clear hn
          go_wp2_with (go_at_call 88; refine C2.mono ?_; rintro e w2 ⟨rfl, rfl⟩)
          go_ret
          exact ⟨_, rfl, by rw [HS.out, if_neg (by rw [HF.out]; simp)]; exact StrRow.nil _, HB.out⟩
        · rw [hn] at C2
          have HF := Lib.hid hn
          clear hn
          go_wp2_with (go_at_call 88; refine C2.mono ?_; rintro e w2 ⟨rfl, rfl⟩)
          go_round
          case rel => exact ⟨k + 1, by omega, by go_num, by rw [HT.out, HA.out, HF.out]; rfl⟩
          case measure => simp [intOf]; omega
      · go_wp2
        go_ret
        have ha := HA.out
        rw [List.take_of_length_le (by omega)] at ha
        exact ⟨_, rfl, by rw [HS.out, if_pos ⟨by omega, ha⟩]; exact ⟨_, _, rfl, hc, hm, HX.out⟩, HB.out⟩

set_option maxHeartbeats 400000 in
theorem rfit_walk (l : List UInt8) (w : World) (hl : l.length ≤ 1100000) :
    Calls Tryz.prog 65 #[S l] w fun e w' => e = .returned (.bool (fitB l)) ∧ Below w.heap.size w w' := by
  have C := rsplit_walk l w hl
  have HF := Lib.hid (show fitB l = decide (0 < (splitL l).length) from rfl)
  generalize fitB l = fb at HF ⊢
  generalize splitL l = sp at C HF
  go_enter Tryz.func65, Tryz.ntmps65
  go_wp2_with (go_at_call 50; refine C.mono ?_; rintro e w1 ⟨v, rfl, ⟨a, c, rfl, hc, hm, hx⟩, hb⟩)
  go_ret
  exact ⟨ret_bool (by rw [HF.out]), hb⟩
end Go.Proofs.YtbmdoekfbkpaeaaGreatDoor

namespace Go.Proofs.YtbmdoekfbkpaeaaGreatDoor
open Go.RowKit

theorem S_append (a b : List UInt8) : Value.string (({ data := a.toArray } : ByteArray) ++ ({ data := b.toArray } : ByteArray)) = S (a ++ b) := by
  congr 1

set_option maxHeartbeats 1100000 in
set_option maxRecDepth 100000 in
theorem rjoin_walk (v : Value) (ns : List (List UInt8)) (w : World) (hr : StrRow w v ns) (hlen : ∀ p ∈ ns, p.length ≤ 1100000) (hcnt : ns.length ≤ 1100000) :
    Calls Tryz.prog 86 #[v] w fun e w' => e = .returned (S (joinL ns)) ∧ w = w' := by
  obtain ⟨a, c, rfl, hc, hm, hx⟩ := hr
  have HX := Lib.hid hx
  have HL := Lib.hid hlen
  have HS := Lib.hid (show joinL ns = if ns.length ≤ 8 ∧ ns.all nameB = true then joinS ns else [] from rfl)
  generalize joinL ns = jl at HS ⊢
  clear hx hlen
  by_cases h8 : (8 : Int) < (ns.length : Int)
  · obtain rfl : jl = [] := by rw [HS.out, if_neg]; omega
    go_enter Tryz.func86, Tryz.ntmps86
    go_wp2
    go_ret
    exact ⟨rfl, rfl⟩
  · go_enter Tryz.func86, Tryz.ntmps86
    go_wp2
    go_loop [3, 4] (fun s i => ∃ k : Nat, k ≤ ns.length ∧ i = .int .i64 k ∧ (ns.take k).all nameB = true ∧ s = S (joinS (ns.take k))) (fun _ i => ns.length - (intOf i).toNat)
    case atStart => exact ⟨0, Nat.zero_le _, rfl, rfl, rfl⟩
    case round =>
      obtain ⟨k, hk, rfl, ha, rfl⟩ := hrel
      have HA := Lib.hid ha
      have hjl := joinS_len (ns.take k) ha
      have htl : (ns.take k).length = k := by simp; omega
      rw [htl] at hjl
      clear ha htl
      by_cases hlt : k < ns.length
      · have hx := HX.out
        rcases hx with hx | ⟨b, o, rfl, hx⟩
        · exfalso; rw [hx] at hlt; simp at hlt
        have hcx := hx k ns[k] (by simp [hlt])
        have hpl : ns[k].length ≤ 1100000 := HL.out _ (List.getElem_mem hlt)
        have C2 := rname_walk ns[k] w hpl
        have HT := Lib.hid (allN_take_succ ns k hlt)
        have HJ := Lib.hid (joinS_take hlt)
        have HBD := Lib.hid (fun h => allN_bad hlt h)
        clear hx
        generalize ns[k] = p at *
        generalize joinS (ns.take k) = jk at *
        cases hn : nameB p
        · rw [hn] at C2
          have HF := Lib.hid (HBD.out hn)
          clear hn
          go_wp2_with (go_at_call 88; refine C2.mono ?_; rintro e w2 ⟨rfl, rfl⟩)
          go_ret
          exact ⟨ret_str (by rw [HS.out, if_neg (by rw [HF.out]; simp)]), rfl⟩
        · rw [hn] at C2
          have hpl' := nameB_len hn
          have HF := Lib.hid hn
          clear hn
          by_cases hz : k = 0
          · have hz' : ¬ (0 : Int) < (k : Int) := by omega
            have HJ0 := Lib.hid (show jk = [] from List.length_eq_zero_iff.1 (by omega))
            have HZ := Lib.hid hz
            clear hz
            go_wp2_with (go_at_call 88; refine C2.mono ?_; rintro e w2 ⟨rfl, rfl⟩)
            go_round
            case rel => exact ⟨k + 1, by omega, by go_num, by rw [HT.out, HA.out, HF.out]; rfl, by rw [HJ.out, if_pos HZ.out, S_append, HJ0.out]; rfl⟩
            case measure => simp [intOf]; omega
          · have hz' : (0 : Int) < (k : Int) := by omega
            go_wp2_with (go_at_call 88; refine C2.mono ?_; rintro e w2 ⟨rfl, rfl⟩)
            go_round
            case rel => exact ⟨k + 1, by omega, by go_num, by rw [HT.out, HA.out, HF.out]; rfl, by rw [S_append, HJ.out, if_neg hz]; simp⟩
            case measure => simp [intOf]; omega
      · go_wp2
        go_ret
        have ha := HA.out
        rw [List.take_of_length_le (by omega)] at ha
        exact ⟨ret_str (by rw [HS.out, if_pos ⟨by omega, ha⟩, List.take_of_length_le (by omega)]), rfl⟩

set_option maxHeartbeats 400000 in
theorem rdir_walk (l : List UInt8) (w : World) (hl : l.length ≤ 1100000) :
    Calls Tryz.prog 49 #[S l] w fun e w' => e = .returned (S (dirL l)) ∧ Below w.heap.size w w' := by
  have C := rsplit_walk l w hl
  have HF := Lib.hid (show dirL l = if (splitL l).length < 2 then [] else joinL ((splitL l).take ((splitL l).length - 1)) from rfl)
  have hlen := splitL_len l
  have hle := splitL_le l
  generalize dirL l = fb at HF ⊢
  generalize splitL l = sp at C HF hlen hle
  by_cases h2 : (sp.length : Int) < 2
  · go_enter Tryz.func49, Tryz.ntmps49
    go_wp2_with (go_at_call 50; refine C.mono ?_; rintro e w1 ⟨v, rfl, ⟨a, c, rfl, hc, hm, hx⟩, hb⟩)
    go_ret
    exact ⟨ret_str (by rw [HF.out, if_pos (by omega)]), hb⟩
  · go_enter Tryz.func49, Tryz.ntmps49
    go_wp2_with (go_at_call 50; refine C.mono ?_; rintro e w1 ⟨v, rfl, ⟨a, c, rfl, hc, hm, hx⟩, hb⟩)
    have hr : StrRow w1 (.slice a (sp.length - 1) c) (sp.take (sp.length - 1)) := StrRow.take ⟨_, _, rfl, hc, hm, hx⟩ (by omega)
    refine (rjoin_walk _ _ w1 hr (fun p hp => by have := hlen p (List.mem_of_mem_take hp); omega) (by simp; omega)).mono ?_
    rintro e w2 ⟨rfl, rfl⟩
    go_wp2
    go_ret
    exact ⟨ret_str (by rw [HF.out, if_neg (by omega)]), hb⟩
end Go.Proofs.YtbmdoekfbkpaeaaGreatDoor

namespace Go.Proofs.YtbmdoekfbkpaeaaGreatDoor
open Go.RowKit

abbrev itC (x : Itm) : List Value := [S x.1, .bool x.2.1, .bool x.2.2.1, S x.2.2.2]
abbrev ItV (x : Itm) : Value := .agg #[S x.1, .bool x.2.1, .bool x.2.2.1, S x.2.2.2]
abbrev ItRow := Row itC
theorem infoIt : (Tryz.prog.info? 47).map (fun i => (i.zero, i.size, i.bytes)) = some (some (.agg #[.string ⟨#[]⟩, .bool false, .bool false, .string ⟨#[]⟩]), 4, 40) := by kernel_rfl
theorem itC_len (x : Itm) : (itC x).length = 4 := rfl
theorem it_cells {w : World} {b o : Nat} {xs : List Itm} (h : ∀ j x, xs[j]? = some x → ∀ i u, (itC x)[i]? = some u → w.cell? ⟨b, o + j * (itC x).length + i, none⟩ = some u) {j : Nat} (hj : j < xs.length) :
    w.cell? ⟨b, o + j * 4, none⟩ = some (S xs[j].1) ∧ w.cell? ⟨b, o + j * 4 + 1, none⟩ = some (.bool xs[j].2.1) ∧ w.cell? ⟨b, o + j * 4 + 2, none⟩ = some (.bool xs[j].2.2.1) ∧ w.cell? ⟨b, o + j * 4 + 3, none⟩ = some (S xs[j].2.2.2) :=
  ⟨h j xs[j] (by simp [hj]) 0 _ rfl, h j xs[j] (by simp [hj]) 1 _ rfl, h j xs[j] (by simp [hj]) 2 _ rfl, h j xs[j] (by simp [hj]) 3 _ rfl⟩
theorem it4_one (x : Itm) : ∀ u ∈ itC x, u.oneCell' = true := by
  intro u hu; simp at hu; rcases hu with rfl | rfl | rfl | rfl <;> rfl
theorem it_one (l : List Itm) : ∀ u ∈ l.flatMap itC, u.oneCell' = true := flat_oneK (fun x _ => it4_one x)
/-- An item's zero, in a box. -/
abbrev zC : Array Value := #[.string ⟨#[]⟩, .bool false, .bool false, .string ⟨#[]⟩]
end Go.Proofs.YtbmdoekfbkpaeaaGreatDoor
