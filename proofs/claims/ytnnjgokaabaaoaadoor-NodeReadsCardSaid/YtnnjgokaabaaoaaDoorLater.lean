/- Regions that draw their order, at the class of all later worlds: those that lie over the world at hand, which stays as it is. -/
import Derived.Test.YtnnjgokaabaaoaaDoorBase
import Derived.Deep.Cut
import Derived.Deep.RegionWith
namespace Go.Proofs.YtnnjgokaabaaoaaDoor
open Go.RowKit

/-- A world that lies over w: what lies in w lies there still. -/
structure LaterOf (w : World) where
  world : World
  below : Below w.heap.size w world

def LaterOf.start (w : World) : LaterOf w := ⟨w, Below.refl _ _⟩
instance (w : World) : Inhabited (LaterOf w) := ⟨LaterOf.start w⟩
theorem LaterOf.cell {w : World} {b o : Nat} {v : Value} (h : w.cell? ⟨b, o, none⟩ = some v) (p : LaterOf w) : p.world.cell? ⟨b, o, none⟩ = some v := cell_below p.below h

theorem wp_region_later {P : Program} {id : Nat} {Q : Exit → Act → World → Prop} {a : Act} {w : World} {l : List Oper} (hm : P.follows .mixedOrders = true) (hB : Region.lexB .any l.toArray = true)
    (h : wpQuiet P l.toArray (fun w' => ∃ p : LaterOf w, w' = p.world) (fun a' => ∀ w', (∃ p : LaterOf w, w' = p.world) → Q .normal a' w') l a) : (Code.region id l.toArray true).wp P Q a w :=
  wp_region_quiet (C := fun w' => ∃ p : LaterOf w, w' = p.world) hm hB ⟨⟨{ w with drawn := w.drawn + 1 }, ⟨rfl, rfl, rfl, Nat.le_refl _, fun _ _ => rfl⟩⟩, rfl⟩ (by simpa using h)

/-- A callee's contract, met in a later world. -/
theorem LaterOf.call {P : Program} {f : FuncId} {args : Array Value} {w : World} {v : Value} (p : LaterOf w)
    (h : Calls P f args p.world fun e w' => e = .returned v ∧ Below p.world.heap.size p.world w') : Calls P f args p.world fun e w'' => e = .returned v ∧ ∃ p' : LaterOf w, w'' = p'.world :=
  h.mono fun _ w' ⟨he, hb⟩ => ⟨he, ⟨w', below_chain p.below hb p.below.size⟩, rfl⟩
theorem LaterOf.still {P : Program} {f : FuncId} {args : Array Value} {w : World} {v : Value} (p : LaterOf w)
    (h : Calls P f args p.world fun e w' => e = .returned v ∧ w' = p.world) : Calls P f args p.world fun e w'' => e = .returned v ∧ ∃ p' : LaterOf w, w'' = p'.world :=
  h.mono fun _ _ ⟨he, hb⟩ => ⟨he, p, hb⟩
end Go.Proofs.YtnnjgokaabaaoaaDoor
