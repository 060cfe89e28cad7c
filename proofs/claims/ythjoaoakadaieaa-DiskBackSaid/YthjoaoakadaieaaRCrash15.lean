/- The reference's Crash. -/
import Derived.Test.YthjoaoakadaieaaRLay
import Derived.Test.YthjoaoakadaieaaAwake15
namespace Go.Proofs.Ythjoaoakadaieaa
open Go.RowKit

def cntO (l : List LF) : Nat := (l.map fun f => f.2.2.length).sum
theorem layKeep_snoc : ∀ (A : List Opn) (s : List UInt8) (o : Opn) (ks : List Bool), layKeep s (A ++ [o]) ks = if (ks.drop A.length).headD false = true then layO (layKeep s A ks) o else layKeep s A ks
  | [], s, o, ks => by simp [layKeep]
  | p :: A, s, o, ks => by
    rw [List.cons_append, layKeep, layKeep_snoc A, layKeep, List.length_cons]
    cases ks <;> simp
theorem layKeep_len : ∀ {A : List Opn} {s : List UInt8} {ks : List Bool}, s.length ≤ 262144 → (∀ o ∈ A, badO o = false) → (layKeep s A ks).length ≤ 262144
  | [], _, _, h, _ => h
  | p :: A, s, ks, h, ho => by
    unfold layKeep
    refine layKeep_len ?_ (fun o hm => ho o (List.mem_cons_of_mem _ hm))
    split
    · exact layO_len h (ho p (by simp))
    · exact h
theorem crashL_snoc : ∀ (A : List LF) (f : LF) (ks : List Bool), crashL (A ++ [f]) ks = crashL A ks ++ [(f.1, layKeep f.2.1 f.2.2 (ks.drop (cntO A)), [])]
  | [], f, ks => by simp [crashL, cntO]
  | g :: A, f, ks => by
    rw [List.cons_append, crashL, crashL_snoc A, crashL, List.cons_append]
    simp [cntO, List.drop_drop]
theorem cntO_snoc (A : List LF) (f : LF) : cntO (A ++ [f]) = cntO A + f.2.2.length := by simp [cntO]
theorem los_take_succ {l : List DF} {k : Nat} (h : k < l.length) : los (l.take (k + 1)) = los (l.take k) ++ [l[k].lo] := by
  rw [List.take_succ_eq_append_getElem h]; simp only [los, List.map_append, List.map_cons, List.map_nil]
theorem lay_step {os : List Opn} {j : Nat} (h : j < os.length) (s : List UInt8) (ks : List Bool) : layKeep s (os.take (j + 1)) ks = if (ks.drop j).headD false = true then layO (layKeep s (os.take j) ks) os[j] else layKeep s (os.take j) ks := by
  rw [List.take_succ_eq_append_getElem h, layKeep_snoc, List.length_take, Nat.min_eq_left (by omega)]
theorem drop_head {ks : List Bool} {n : Nat} (h : n < ks.length) : (ks.drop n).headD false = ks[n] := by
  rw [List.headD_eq_head?_getD, List.head?_drop, List.getElem?_eq_getElem h]; rfl
theorem drop_none {ks : List Bool} {n : Nat} (h : ¬ n < ks.length) : (ks.drop n).headD false = false := by
  rw [List.drop_eq_nil_of_le (by omega)]; rfl
def BareL (dn : List DF) : Prop := ∀ x ∈ dn, x.ov = .slice none 0 0 ∧ x.ops = []
theorem BareL.snoc {dn : List DF} (h : BareL dn) (n s : List UInt8) : BareL (dn ++ [⟨n, s, .slice none 0 0, []⟩]) := by
  intro x hx
  rcases List.mem_append.1 hx with h1 | h1
  · exact h x h1
  · simp at h1; subst h1; exact ⟨rfl, rfl⟩

set_option maxHeartbeats 8000000 in
set_option maxRecDepth 100000 in
theorem rcrash15_walk (v kv : Value) (off : Bool) (fuse : Int) (l : List DF) (ks : List Bool) (w : World) (hr : FilesR w v l) (hkr : Row boolC w kv ks) (hcnt : l.length ≤ 1000) (hkl : ks.length ≤ 1000000) (hok : ∀ x ∈ l, badF x.lo = false) :
    Calls Try.prog 22 #[DiskV v off fuse, kv] w fun e w' => ∃ v' l', e = .returned (DiskV v' false (-1)) ∧ FilesR w' v' l' ∧ los l' = crashL (los l) ks ∧ Below w.heap.size w w' := by
  obtain ⟨⟨a, c, rfl, hc, hcm, hx⟩, ho⟩ := hr
  obtain ⟨ak, kc, rfl, hkc, hkm, hkx⟩ := hkr
  have HX := Lib.hid hx
  have HO := Lib.hid ho
  have HKX := Lib.hid hkx
  have HOK := Lib.hid hok
  clear hx ho hkx hok
  obtain ⟨i0, hi, hz0, hz1, hz2⟩ := info_parts infoDF
  obtain ⟨w0, hw0, hB0, hd1, hd2⟩ : ∃ w0, w0 = (w.alloc (.cells #[.slice a l.length c, .bool off, .int .i64 fuse] 35)).alloc (.cells #[.slice none 0 0, .bool false, .int .i64 0] 35) ∧ Below w.heap.size w w0 ∧ w0.heap[w.heap.size]? = some (DCells (.slice a l.length c) off fuse) ∧ w0.heap[w.heap.size + 1]? = some (DCells (.slice none 0 0) false 0) := by
    refine ⟨_, rfl, ((Below.refl _ w).alloc (Nat.le_refl _) _).alloc (by rw [World.size_alloc]; omega) _, heap_old (heap_alloc_new w _), ?_⟩
    exact heap_new' (World.size_alloc _ _).symm _
  have hz0' : w0.heap.size = w.heap.size + 1 + 1 := by rw [hw0, World.size_alloc, World.size_alloc]
  go_enter Try.func22, Try.ntmps22
  go_wp2_with fail
  rw [← hw0]
  clear hw0
  clear hz0'
  have HD1 := Lib.hid hd1
  have HD2 := Lib.hid hd2
  have hf1 := heap_cell hd1 (j := 0) (v := .slice a l.length c) rfl
  clear hd1 hd2
  go_loopw [5, 6, 7] (fun v n i wr => ∃ (k : Nat) (dn : List DF), k ≤ l.length ∧ i = .int .i64 k ∧ n = .int .i64 (cntO (los (l.take k)) : Nat) ∧ cntO (los (l.take k)) ≤ 200 * k ∧ los dn = crashL (los (l.take k)) ks ∧ BareL dn ∧ dn.length = k ∧ OwnF wr w0.heap.size v dn ∧ Below w0.heap.size w0 wr) (fun _ _ i _ => l.length - (intOf i).toNat)
  case atStart => exact ⟨0, [], Nat.zero_le _, rfl, by simp [los, cntO], by simp [los, cntO], by simp [los, crashL], by simp [BareL], rfl, World.ownsRow_nil _ _ _ _, Below.refl _ _⟩
  case round =>
    obtain ⟨k, dn, hk, rfl, rfl, hcn, hlos, hbare, hdk, hown, hB⟩ := hrel
    have HLOS := Lib.hid hlos
    have HBARE := Lib.hid hbare
    have HDK := Lib.hid hdk
    have hdk1 : dn.length ≤ k := by omega
    have HB := Lib.hid hB
    have hbW := below_chain hB0 hB hB0.size
    have HBW := Lib.hid hbW
    have hsz := hB.size
    have HOW := Lib.hid hown
    have hf1w := cell_below hB hf1
    clear hlos hbare hdk
    by_cases h1 : k < l.length
    · have h1' : (k : Int) < (l.length : Int) := by omega
      have hx := HX.out
      rcases hx with hx | ⟨b, o, rfl, hx⟩
      · exfalso; rw [hx] at h1; simp at h1
      obtain ⟨hx1, hx2, hx3⟩ := df_cells hx h1
      have hc1 := cell_below hbW hx1
      have hc2 := cell_below hbW hx2
      have hc3 := cell_below hbW hx3
      have HR := Lib.hid ((HO.out l[k] (by simp)).below hbW)
      have hbf := HOK.out l[k] (by simp)
      have HCS := Lib.hid (show crashL (los (l.take (k + 1))) ks = _ from (congrArg (fun x => crashL x ks) (los_take_succ h1)).trans (crashL_snoc _ _ _))
      have HCN := Lib.hid (show cntO (los (l.take (k + 1))) = _ from (congrArg cntO (los_take_succ h1)).trans (cntO_snoc _ _))
      clear hx hx1 hx2 hx3 hbW
      generalize cntO (los (l.take k)) = n at *
      generalize crashL (los (l.take k)) ks = cl at *
      generalize l[k] = y at *
      obtain ⟨nm, dt, ov, os⟩ := y
      obtain ⟨_, hol, hdl, hall⟩ := (badF_iff _).1 hbf
      simp only [DF.lo] at hc1 hc2 hc3 HR HCS HCN hol hdl hall
      have HALL := Lib.hid hall
      have HLEN := Lib.hid (fun (j : Nat) => layKeep_len (A := os.take j) (s := dt) (ks := ks.drop n) hdl (fun o ho => hall o (List.mem_of_mem_take ho)))
      clear hbf hall
      obtain ⟨ao, co, rfl, hcO, hcmO, hxO⟩ := HR.out
      have HXO := Lib.hid hxO
      clear hxO
      obtain ⟨wA, hwA, hBAr, hbx0, hbx2⟩ : ∃ wA, wA = wr.alloc (.cells #[S nm, S dt, .slice ao os.length co] 50) ∧ Below wr.heap.size wr wA ∧ wA.cell? ⟨wr.heap.size, 0, none⟩ = some (S nm) ∧ wA.cell? ⟨wr.heap.size, 2, none⟩ = some (.slice ao os.length co) :=
        ⟨_, rfl, (Below.refl _ wr).alloc (Nat.le_refl _) _, cell_new wr _ _ 0 rfl, cell_new wr _ _ 2 rfl⟩
      have HBA := Lib.hid (below_chain HB.out hBAr HB.out.size)
      have HBAW := Lib.hid (below_chain HBW.out hBAr HBW.out.size)
      go_wp2_with fail
      rw [← hwA]
      clear hwA hc1 hc2 hc3 hown hB hf1w
      go_loopw [6, 9, 10] (fun nn s i wq => ∃ j : Nat, j ≤ os.length ∧ i = .int .i64 j ∧ nn = .int .i64 ((n : Int) + j) ∧ s = S (layKeep dt (os.take j) (ks.drop n)) ∧ Below wA.heap.size wA wq) (fun _ _ i _ => os.length - (intOf i).toNat)
      case atStart => exact ⟨0, Nat.zero_le _, rfl, by simp, rfl, Below.refl _ _⟩
      case round =>
        obtain ⟨j, hj, rfl, rfl, rfl, hBq⟩ := hrel
        have HBQ := Lib.hid hBq
        have hbq0 := cell_below hBq hbx0
        have hbq2 := cell_below hBq hbx2
        have hbqr := below_chain hBAr hBq hBAr.size
        have HBQR := Lib.hid hbqr
        have HBQ0 := Lib.hid (below_chain HBA.out hBq HBA.out.size)
        have hbqW := below_chain HBAW.out hBq HBAW.out.size
        have HBQW := Lib.hid hbqW
        have hsl := HLEN.out j
        by_cases h3 : j < os.length
        · have h3' : (j : Int) < (os.length : Int) := by omega
          have hx := HXO.out
          rcases hx with hx | ⟨b3, o3, rfl, hx⟩
          · exfalso; rw [hx] at h3; simp at h3
          obtain ⟨hx1, hx2⟩ := op_cells hx h3
          have hd1 := LaterOf.cell (cell_below hbqr hx1)
          have hd2 := LaterOf.cell (cell_below hbqr hx2)
          have hdb := LaterOf.cell hbq2
          have hbo := HALL.out os[j] (by simp)
          have HST := Lib.hid (lay_step h3 dt (ks.drop n))
          rw [List.drop_drop] at HST
          clear hx hx1 hx2 hbqr
          generalize layKeep dt (os.take j) (ks.drop n) = sj at *
          have CL := fun w => rlayo_walk sj os[j] w hsl hbo
          generalize layO sj os[j] = sn at *
          generalize os[j] = y at *
          obtain ⟨p, q⟩ := y
          simp only at hd1 hd2 CL
          by_cases h5 : n + j < ks.length
          · have h5' : (n : Int) + (j : Int) < (ks.length : Int) := by omega
            have hkx := HKX.out
            rcases hkx with hkx | ⟨b5, o5, rfl, hkx⟩
            · exfalso; rw [hkx] at h5; simp at h5
            have hq1 := cell_below hbqW (hkx (n + j) ks[n + j] (by simp [h5]) 0 (.bool ks[n + j]) rfl)
            rw [drop_head h5] at HST
            simp only [List.length_cons, List.length_nil, Nat.mul_one, Nat.zero_add, Nat.add_zero] at hq1
            clear hkx hbqW
            generalize ks[n + j] = kb at *
            cases kb with
            | true =>
              have HS := Lib.hid (HST.out.trans (if_pos rfl))
              go_wp2
              (refine wp_region_later (by kernel_rfl) (by kernel_rfl) ?_; (repeat (go_big_quiet_step ((go_at_call 43; exact LaterOf.call _ (CL _))))); refine wpQuiet_nil ?_; intro _ hw1; obtain ⟨lw, hw2⟩ := hw1; subst hw2)
              go_wp2
              go_roundw
              case rel => exact ⟨j + 1, by omega, by go_num, by go_num, by rw [HS.out], below_chain HBQ.out lw.below HBQ.out.size⟩
              case measure => simp [intOf]; omega
            | false =>
              have HS := Lib.hid (HST.out.trans (if_neg (by simp)))
              go_wp2
              go_roundw
              case rel => exact ⟨j + 1, by omega, by go_num, by go_num, by rw [HS.out], HBQ.out⟩
              case measure => simp [intOf]; omega
          · have h5' : ¬ (n : Int) + (j : Int) < (ks.length : Int) := by omega
            rw [drop_none h5] at HST
            have HS := Lib.hid (HST.out.trans (if_neg (by simp)))
            go_wp2
            go_roundw
            case rel => exact ⟨j + 1, by omega, by go_num, by go_num, by rw [HS.out], HBQ.out⟩
            case measure => simp [intOf]; omega
        · have h3' : ¬ (j : Int) < (os.length : Int) := by omega
          rw [List.take_of_length_le (by omega)]
          have hownq : OwnF _ w0.heap.size _ dn := own_keep HOW.out (fun g _ h2 => HBQR.out.block g h2)
          have hj : (j : Int) = (os.length : Int) := by omega
          have hszq := HBQR.out.size
          have hBQ1 := HBQ0.out
          go_wp2_with (at_builtin; refine wpList_append_own _ rfl _ _ 33 rfl w0.heap.size 50 i0 (.agg #[.string ⟨#[]⟩, .string ⟨#[]⟩, .slice none 0 0]) 3 56 Try.underlying33 hi hz0 hz1 hz2 rfl (by decide) _ _ _ rfl (hownq.alloc _) ⟨_, 0, none⟩ 1 1 [S nm, S (layKeep dt os (ks.drop n)), .slice none 0 0] rfl rfl (new_cells3 _ _ _ _ _) (df3_one rfl) (by unfold maxLen; omega) (by omega) (by simp; omega) ?_)
          intro v' w1 hown' hgrow _
          have hB1 := (hBQ1.alloc hBQ1.size (.cells #[S nm, S (layKeep dt os (ks.drop n)), .slice none 0 0] 50)).grown hgrow (by have := hBQ1.size; simp; omega) (fun g hg => (hownq.lt g hg).1)
          have HLN := Lib.hid (show los (dn ++ [⟨nm, layKeep dt os (ks.drop n), .slice none 0 0, []⟩]) = crashL (los (l.take (k + 1))) ks by
            rw [HCS.out, ← HLOS.out]; simp [los, DF.lo])
          clear hgrow hownq hBQ1 hbq0 hbq2 hbqr hbqW
          go_wp2
          go_roundw
          case rel => exact ⟨k + 1, dn ++ [⟨nm, layKeep dt os (ks.drop n), .slice none 0 0, []⟩], by omega, by go_num, by rw [HCN.out]; go_num, by rw [HCN.out]; omega, HLN.out, HBARE.out.snoc _ _, by rw [List.length_append, HDK.out]; rfl, by unfold OwnF; simpa using hown', hB1⟩
          case measure => simp [intOf]; omega
    · have h1' : ¬ (k : Int) < (l.length : Int) := by omega
      have e1 := HLOS.out
      rw [List.take_of_length_le (by omega)] at e1
      have HLO := Lib.hid e1
      obtain ⟨av, mv, cv, rfl⟩ := own_slice hown
      obtain rfl := own_count hown
      have hr3 := (hB.block _ (heap_lt HD2.out)).trans HD2.out
      have x0 := heap_cell hr3 (j := 0) (v := .slice none 0 0) rfl
      have x1 := heap_cell hr3 (j := 1) (v := .bool false) rfl
      have x2 := heap_cell hr3 (j := 2) (v := .int .i64 0) rfl
      have f0 := heap_free hr3 0
      have f1 := heap_free hr3 1
      have f2 := heap_free hr3 2
      obtain ⟨W1, hW1⟩ : ∃ W1, W1 = ((wr.setCell ⟨w.heap.size + 1, 0, none⟩ (.slice av dn.length cv)).setCell ⟨w.heap.size + 1, 1, none⟩ (.bool false)).setCell ⟨w.heap.size + 1, 2, none⟩ (.int .i64 (-1)) := ⟨_, rfl⟩
      have hB1 : Below w.heap.size w W1 := by rw [hW1]; exact below_setC (below_setC (below_setC HBW.out (by omega) 0 _) (by omega) 1 _) (by omega) 2 _
      have hx1 : W1.heap[w.heap.size + 1]? = some (DCells (.slice av dn.length cv) false (-1)) := by rw [hW1]; exact dbox_store hr3
      have hown1 : OwnF W1 w0.heap.size (.slice av dn.length cv) dn := own_keep hown (fun g h1 _ => by rw [hW1]; exact set3_other g (by have := heap_lt HD2.out; omega))
      have s0 := heap_cell hx1 (j := 0) (v := .slice av dn.length cv) rfl
      have s1 := heap_cell hx1 (j := 1) (v := .bool false) rfl
      have s2 := heap_cell hx1 (j := 2) (v := .int .i64 (-1)) rfl
      clear e1 hown hB hr3
      go_wp2
      rw [← hW1]
      refine bodyPost_ret (v := DiskV (.slice av dn.length cv) false (-1)) (by simp [results, Try.results22, go_sem, s0, s1, s2]) rfl ?_
      exact ⟨_, rfl, dn, ⟨Row.of_ownsK dfC_len hown1, fun x hx => by rw [(HBARE.out x hx).1, (HBARE.out x hx).2]; exact Row.nil _ _⟩, HLO.out, hB1⟩
end Go.Proofs.Ythjoaoakadaieaa
