/-
  No cell of these rows narrows 'for every input' (looked for: loops, veiled, ifaces, maps, wideKeys, modest, calm, conditions, laid).
  DERIVED. THE GIVEN ROWS OF THIS SEAT. 6 by the template 'for every input the law returns true; each argument reads behind the call as it read before'; 0 by the template 'total and deterministic' (their statements: YtmlahfmcccpgjaaTotals.lean).
  GIVEN WITH THE SEED: the statements are not yours to turn. If you find one false, say at which input.
  Laid BY PROGRAM, IN A SANDBOX (cutbox-rows.mjs): the forced cells as the released guide's own fill.sh prints them over the translation 2e9cc9030c7b00d5… (all of the seat's roots in one cut). By AI agents, Wed Nov 11 2026. No macro, syntax, notation, axiom, sorry.
-/
import Derived.Test.YtmlahfmcccpgjaaChecked
import GoSem.Claim
import GoSem.ClaimJoined
import GoSem.ClaimMapViews
import Derived.JoinedTies
import Derived.KernelRfl
namespace Go.Proofs.Ytmlahfmcccpgjaa
/- THE CELL 'sum', in the pinned program and in every row, IS THE sha256 OF THE DUMP (.gsa) THAT YtmlahfmcccpgjaaProg.lean LOADS. Nothing in Lean hashes anything: it is a label: what it is worth is what the hold of that sum in a sandbox is worth. -/
noncomputable def Try.pinned : Pinned := { name := "ytmlahfmcccpgjaa", sum := "2e9cc9030c7b00d5df8eaf4195f4ce1477e4d5c497eb3e820d366d2cdf07ee12", checked := Try.checked }
namespace Rows
def none {H : Type} : Left H := { results := [], args := [] }

/-- 'silolaw18.RootsReplays': WHATEVER THE INPUT: true; the input reads as it did. -/
def rootsReplaysSpec : ChangeSpec := { name := "rootsReplays", fn := fun _ => fun
  | [d] => { results := [.lit (.bool true)], args := [d] }
  | _ => none }
def rootsReplaysRow : OpenClaim := { program := "ytmlahfmcccpgjaa", sum := "2e9cc9030c7b00d5df8eaf4195f4ce1477e4d5c497eb3e820d366d2cdf07ee12", func := "silo/silolaw18.RootsReplays", spec := "rootsReplays", inPlace := ["internal/bytealg.IndexByteString", "internal/bytealg.IndexString", "internal/abi.NoEscape", "slices.overlaps[silo/api.Snap]"], unfollowed := true, recurses := true, named := ["internal/bytealg.MaxLen"], apart := false }
def RootsReplaysSaid : Prop := rootsReplaysRow.holds Try.pinned (OpenSpec.ofChange rootsReplaysSpec)

/-- ITS FALSE NEIGHBOUR: 'it returns false'. Refute it at one input. -/
def rootsReplaysWrong : ChangeSpec := { name := "rootsReplays", fn := fun _ => fun
  | [d] => { results := [.lit (.bool false)], args := [d] }
  | _ => none }
def RootsReplaysWrongFalsely : Prop := rootsReplaysRow.holds Try.pinned (OpenSpec.ofChange rootsReplaysWrong)

/-- 'silolaw18.RootsBack': WHATEVER THE INPUT: true; the input reads as it did. -/
def rootsBackSpec : ChangeSpec := { name := "rootsBack", fn := fun _ => fun
  | [d1, d2, d3] => { results := [.lit (.bool true)], args := [d1, d2, d3] }
  | _ => none }
def rootsBackRow : OpenClaim := { program := "ytmlahfmcccpgjaa", sum := "2e9cc9030c7b00d5df8eaf4195f4ce1477e4d5c497eb3e820d366d2cdf07ee12", func := "silo/silolaw18.RootsBack", spec := "rootsBack", inPlace := ["internal/bytealg.IndexByteString", "internal/bytealg.IndexString", "internal/abi.NoEscape", "slices.overlaps[silo/api.Snap]"], unfollowed := true, recurses := true, named := ["internal/bytealg.MaxLen"], apart := false }
def RootsBackSaid : Prop := rootsBackRow.holds Try.pinned (OpenSpec.ofChange rootsBackSpec)

/-- ITS FALSE NEIGHBOUR: 'it returns false'. Refute it at one input. -/
def rootsBackWrong : ChangeSpec := { name := "rootsBack", fn := fun _ => fun
  | [d1, d2, d3] => { results := [.lit (.bool false)], args := [d1, d2, d3] }
  | _ => none }
def RootsBackWrongFalsely : Prop := rootsBackRow.holds Try.pinned (OpenSpec.ofChange rootsBackWrong)

/-- 'silolaw18.RootsOrders': WHATEVER THE INPUT: true; the input reads as it did. -/
def rootsOrdersSpec : ChangeSpec := { name := "rootsOrders", fn := fun _ => fun
  | [d1, d2, d3] => { results := [.lit (.bool true)], args := [d1, d2, d3] }
  | _ => none }
def rootsOrdersRow : OpenClaim := { program := "ytmlahfmcccpgjaa", sum := "2e9cc9030c7b00d5df8eaf4195f4ce1477e4d5c497eb3e820d366d2cdf07ee12", func := "silo/silolaw18.RootsOrders", spec := "rootsOrders", inPlace := ["internal/bytealg.IndexByteString", "internal/bytealg.IndexString", "internal/abi.NoEscape", "slices.overlaps[silo/api.Snap]"], unfollowed := true, recurses := true, named := ["internal/bytealg.MaxLen"], apart := false }
def RootsOrdersSaid : Prop := rootsOrdersRow.holds Try.pinned (OpenSpec.ofChange rootsOrdersSpec)

/-- ITS FALSE NEIGHBOUR: 'it returns false'. Refute it at one input. -/
def rootsOrdersWrong : ChangeSpec := { name := "rootsOrders", fn := fun _ => fun
  | [d1, d2, d3] => { results := [.lit (.bool false)], args := [d1, d2, d3] }
  | _ => none }
def RootsOrdersWrongFalsely : Prop := rootsOrdersRow.holds Try.pinned (OpenSpec.ofChange rootsOrdersWrong)

/-- 'silolaw18.RootsDoes': WHATEVER THE INPUT: true; the input reads as it did. -/
def rootsDoesSpec : ChangeSpec := { name := "rootsDoes", fn := fun _ => fun
  | [d1, d2, d3, d4] => { results := [.lit (.bool true)], args := [d1, d2, d3, d4] }
  | _ => none }
def rootsDoesRow : OpenClaim := { program := "ytmlahfmcccpgjaa", sum := "2e9cc9030c7b00d5df8eaf4195f4ce1477e4d5c497eb3e820d366d2cdf07ee12", func := "silo/silolaw18.RootsDoes", spec := "rootsDoes", inPlace := ["internal/bytealg.IndexByteString", "internal/bytealg.IndexString", "internal/abi.NoEscape", "slices.overlaps[silo/api.Snap]"], unfollowed := true, recurses := true, named := ["internal/bytealg.MaxLen"], apart := false }
def RootsDoesSaid : Prop := rootsDoesRow.holds Try.pinned (OpenSpec.ofChange rootsDoesSpec)

/-- ITS FALSE NEIGHBOUR: 'it returns false'. Refute it at one input. -/
def rootsDoesWrong : ChangeSpec := { name := "rootsDoes", fn := fun _ => fun
  | [d1, d2, d3, d4] => { results := [.lit (.bool false)], args := [d1, d2, d3, d4] }
  | _ => none }
def RootsDoesWrongFalsely : Prop := rootsDoesRow.holds Try.pinned (OpenSpec.ofChange rootsDoesWrong)

/-- 'silolaw44.CacheNew': WHATEVER THE INPUT: true; the input reads as it did. -/
def cacheNewSpec : ChangeSpec := { name := "cacheNew", fn := fun _ => fun
  | [d1, d2, d3, d4] => { results := [.lit (.bool true)], args := [d1, d2, d3, d4] }
  | _ => none }
def cacheNewRow : OpenClaim := { program := "ytmlahfmcccpgjaa", sum := "2e9cc9030c7b00d5df8eaf4195f4ce1477e4d5c497eb3e820d366d2cdf07ee12", func := "silo/silolaw44.CacheNew", spec := "cacheNew", inPlace := ["internal/bytealg.abigen_runtime_cmpstring", "internal/bytealg.IndexByteString", "internal/bytealg.IndexString"], unfollowed := true, recurses := true, named := ["internal/bytealg.MaxLen"], apart := false }
def CacheNewSaid : Prop := cacheNewRow.holds Try.pinned (OpenSpec.ofChange cacheNewSpec)

/-- ITS FALSE NEIGHBOUR: 'it returns false'. Refute it at one input. -/
def cacheNewWrong : ChangeSpec := { name := "cacheNew", fn := fun _ => fun
  | [d1, d2, d3, d4] => { results := [.lit (.bool false)], args := [d1, d2, d3, d4] }
  | _ => none }
def CacheNewWrongFalsely : Prop := cacheNewRow.holds Try.pinned (OpenSpec.ofChange cacheNewWrong)

/-- 'silolaw44.CacheDoes': WHATEVER THE INPUT: true; the input reads as it did. -/
def cacheDoesSpec : ChangeSpec := { name := "cacheDoes", fn := fun _ => fun
  | [d1, d2, d3, d4, d5] => { results := [.lit (.bool true)], args := [d1, d2, d3, d4, d5] }
  | _ => none }
def cacheDoesRow : OpenClaim := { program := "ytmlahfmcccpgjaa", sum := "2e9cc9030c7b00d5df8eaf4195f4ce1477e4d5c497eb3e820d366d2cdf07ee12", func := "silo/silolaw44.CacheDoes", spec := "cacheDoes", inPlace := ["internal/bytealg.abigen_runtime_cmpstring", "internal/bytealg.IndexByteString", "internal/bytealg.IndexString"], unfollowed := true, recurses := true, named := ["internal/bytealg.MaxLen"], apart := false }
def CacheDoesSaid : Prop := cacheDoesRow.holds Try.pinned (OpenSpec.ofChange cacheDoesSpec)

/-- ITS FALSE NEIGHBOUR: 'it returns false'. Refute it at one input. -/
def cacheDoesWrong : ChangeSpec := { name := "cacheDoes", fn := fun _ => fun
  | [d1, d2, d3, d4, d5] => { results := [.lit (.bool false)], args := [d1, d2, d3, d4, d5] }
  | _ => none }
def CacheDoesWrongFalsely : Prop := cacheDoesRow.holds Try.pinned (OpenSpec.ofChange cacheDoesWrong)

/- THE SECOND FORM. 'bulk': how many values and letters a reading holds, each counted each time it is reached (what is shared counts as often as it is met; a slice's spare places count too). A statement '..UptoSaid' is the law's where the arguments, and the package variables that the reading takes, are together of bulk at most 1048576: NARROWER than '..Said'. Prove '..Said' where nothing that the law and all that it calls make is longer than what came in: it says more and counts as full. Else prove '..UptoSaid'. A law counts once. -/
mutual
def uptoBulk {H : Type} : DataW H → Nat
  | .lit (.string bytes) => bytes.length + 1
  | .lit _ => 1
  | .nil => 1
  | .ptr d => uptoBulk d + 1
  | .slice elems spare => uptoBulkAll elems + uptoBulkAll spare + 1
  | .agg parts => uptoBulkAll parts + 1
  | .iface _ d => uptoBulk d + 1
  | .map entries => uptoBulkEntries entries + 1
  | .held _ => 1
def uptoBulkAll {H : Type} : List (DataW H) → Nat
  | [] => 0
  | d :: r => uptoBulk d + uptoBulkAll r
def uptoBulkEntries {H : Type} : List (Lit × DataW H) → Nat
  | [] => 0
  | x :: r => uptoBulkEntry x + uptoBulkEntries r
def uptoBulkEntry {H : Type} : Lit × DataW H → Nat
  | (.string bytes, d) => bytes.length + uptoBulk d + 1
  | (_, d) => uptoBulk d + 1
 end
def uptoSmall : (H : Type) → List (DataW H) → Bool := fun _ ds => decide (uptoBulkAll ds ≤ 1048576)
def OpenSpec.upto (s : _root_.Go.ChangeSpec) : _root_.Go.OpenSpec := { _root_.Go.OpenSpec.ofChange s with cond := some uptoSmall }

/-- 'silolaw18.RootsReplays', WHERE WHAT IT READS IS OF BULK AT MOST 1048576: true; the input reads as it did. -/
def rootsReplaysUptoRow : OpenClaim := { program := "ytmlahfmcccpgjaa", sum := "2e9cc9030c7b00d5df8eaf4195f4ce1477e4d5c497eb3e820d366d2cdf07ee12", func := "silo/silolaw18.RootsReplays", spec := "rootsReplays", inPlace := ["internal/bytealg.IndexByteString", "internal/bytealg.IndexString", "internal/abi.NoEscape", "slices.overlaps[silo/api.Snap]"], unfollowed := true, recurses := true, named := ["internal/bytealg.MaxLen"], apart := false, narrowed := true }
def RootsReplaysUptoSaid : Prop := rootsReplaysUptoRow.holds Try.pinned (OpenSpec.upto rootsReplaysSpec)

/-- 'silolaw18.RootsBack', WHERE WHAT IT READS IS OF BULK AT MOST 1048576: true; the input reads as it did. -/
def rootsBackUptoRow : OpenClaim := { program := "ytmlahfmcccpgjaa", sum := "2e9cc9030c7b00d5df8eaf4195f4ce1477e4d5c497eb3e820d366d2cdf07ee12", func := "silo/silolaw18.RootsBack", spec := "rootsBack", inPlace := ["internal/bytealg.IndexByteString", "internal/bytealg.IndexString", "internal/abi.NoEscape", "slices.overlaps[silo/api.Snap]"], unfollowed := true, recurses := true, named := ["internal/bytealg.MaxLen"], apart := false, narrowed := true }
def RootsBackUptoSaid : Prop := rootsBackUptoRow.holds Try.pinned (OpenSpec.upto rootsBackSpec)

/-- 'silolaw18.RootsOrders', WHERE WHAT IT READS IS OF BULK AT MOST 1048576: true; the input reads as it did. -/
def rootsOrdersUptoRow : OpenClaim := { program := "ytmlahfmcccpgjaa", sum := "2e9cc9030c7b00d5df8eaf4195f4ce1477e4d5c497eb3e820d366d2cdf07ee12", func := "silo/silolaw18.RootsOrders", spec := "rootsOrders", inPlace := ["internal/bytealg.IndexByteString", "internal/bytealg.IndexString", "internal/abi.NoEscape", "slices.overlaps[silo/api.Snap]"], unfollowed := true, recurses := true, named := ["internal/bytealg.MaxLen"], apart := false, narrowed := true }
def RootsOrdersUptoSaid : Prop := rootsOrdersUptoRow.holds Try.pinned (OpenSpec.upto rootsOrdersSpec)

/-- 'silolaw18.RootsDoes', WHERE WHAT IT READS IS OF BULK AT MOST 1048576: true; the input reads as it did. -/
def rootsDoesUptoRow : OpenClaim := { program := "ytmlahfmcccpgjaa", sum := "2e9cc9030c7b00d5df8eaf4195f4ce1477e4d5c497eb3e820d366d2cdf07ee12", func := "silo/silolaw18.RootsDoes", spec := "rootsDoes", inPlace := ["internal/bytealg.IndexByteString", "internal/bytealg.IndexString", "internal/abi.NoEscape", "slices.overlaps[silo/api.Snap]"], unfollowed := true, recurses := true, named := ["internal/bytealg.MaxLen"], apart := false, narrowed := true }
def RootsDoesUptoSaid : Prop := rootsDoesUptoRow.holds Try.pinned (OpenSpec.upto rootsDoesSpec)

/-- 'silolaw44.CacheNew', WHERE WHAT IT READS IS OF BULK AT MOST 1048576: true; the input reads as it did. -/
def cacheNewUptoRow : OpenClaim := { program := "ytmlahfmcccpgjaa", sum := "2e9cc9030c7b00d5df8eaf4195f4ce1477e4d5c497eb3e820d366d2cdf07ee12", func := "silo/silolaw44.CacheNew", spec := "cacheNew", inPlace := ["internal/bytealg.abigen_runtime_cmpstring", "internal/bytealg.IndexByteString", "internal/bytealg.IndexString"], unfollowed := true, recurses := true, named := ["internal/bytealg.MaxLen"], apart := false, narrowed := true }
def CacheNewUptoSaid : Prop := cacheNewUptoRow.holds Try.pinned (OpenSpec.upto cacheNewSpec)

/-- 'silolaw44.CacheDoes', WHERE WHAT IT READS IS OF BULK AT MOST 1048576: true; the input reads as it did. -/
def cacheDoesUptoRow : OpenClaim := { program := "ytmlahfmcccpgjaa", sum := "2e9cc9030c7b00d5df8eaf4195f4ce1477e4d5c497eb3e820d366d2cdf07ee12", func := "silo/silolaw44.CacheDoes", spec := "cacheDoes", inPlace := ["internal/bytealg.abigen_runtime_cmpstring", "internal/bytealg.IndexByteString", "internal/bytealg.IndexString"], unfollowed := true, recurses := true, named := ["internal/bytealg.MaxLen"], apart := false, narrowed := true }
def CacheDoesUptoSaid : Prop := cacheDoesUptoRow.holds Try.pinned (OpenSpec.upto cacheDoesSpec)

end Rows
end Go.Proofs.Ytmlahfmcccpgjaa
