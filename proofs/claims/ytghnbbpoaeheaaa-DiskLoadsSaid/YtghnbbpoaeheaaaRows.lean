/-
  No cell of these rows narrows 'for every input' (looked for: loops, veiled, ifaces, maps, wideKeys, modest, calm, conditions, laid).
  DERIVED. THE GIVEN ROWS OF THIS SEAT. 8 by the template 'for every input the law returns true; each argument reads behind the call as it read before'; 0 by the template 'total and deterministic' (their statements: YtghnbbpoaeheaaaTotals.lean).
  GIVEN WITH THE SEED: the statements are not yours to turn. If you find one false, say at which input.
  Laid BY PROGRAM, IN A SANDBOX (cutbox-rows.mjs): the forced cells as the released guide's own fill.sh prints them over the translation 6f76c4b1488f87f4… (all of the seat's roots in one cut). By AI agents, Wed Nov 11 2026. No macro, syntax, notation, axiom, sorry.
-/
import Derived.Test.YtghnbbpoaeheaaaChecked
import GoSem.Claim
import GoSem.ClaimJoined
import GoSem.ClaimMapViews
import Derived.JoinedTies
import Derived.KernelRfl
namespace Go.Proofs.Ytghnbbpoaeheaaa
/- THE CELL 'sum', in the pinned program and in every row, IS THE sha256 OF THE DUMP (.gsa) THAT YtghnbbpoaeheaaaProg.lean LOADS. Nothing in Lean hashes anything: it is a label: what it is worth is what the hold of that sum in a sandbox is worth. -/
noncomputable def Try.pinned : Pinned := { name := "ytghnbbpoaeheaaa", sum := "6f76c4b1488f87f428e2962af2f75fd0b16dc500873efe25a741d23ebfccb721", checked := Try.checked }
namespace Rows
def none {H : Type} : Left H := { results := [], args := [] }

/-- 'spindlelaw04.DiskLoads': WHATEVER THE INPUT: true; the input reads as it did. -/
def diskLoadsSpec : ChangeSpec := { name := "diskLoads", fn := fun _ => fun
  | [d1, d2] => { results := [.lit (.bool true)], args := [d1, d2] }
  | _ => none }
def diskLoadsRow : OpenClaim := { program := "ytghnbbpoaeheaaa", sum := "6f76c4b1488f87f428e2962af2f75fd0b16dc500873efe25a741d23ebfccb721", func := "spindle/spindlelaw04.DiskLoads", spec := "diskLoads", unfollowed := true, recurses := true, apart := false }
def DiskLoadsSaid : Prop := diskLoadsRow.holds Try.pinned (OpenSpec.ofChange diskLoadsSpec)

/-- ITS FALSE NEIGHBOUR: 'it returns false'. Refute it at one input. -/
def diskLoadsWrong : ChangeSpec := { name := "diskLoads", fn := fun _ => fun
  | [d1, d2] => { results := [.lit (.bool false)], args := [d1, d2] }
  | _ => none }
def DiskLoadsWrongFalsely : Prop := diskLoadsRow.holds Try.pinned (OpenSpec.ofChange diskLoadsWrong)

/-- 'spindlelaw05.BayWears': WHATEVER THE INPUT: true; the input reads as it did. -/
def bayWearsSpec : ChangeSpec := { name := "bayWears", fn := fun _ => fun
  | [d1, d2, d3] => { results := [.lit (.bool true)], args := [d1, d2, d3] }
  | _ => none }
def bayWearsRow : OpenClaim := { program := "ytghnbbpoaeheaaa", sum := "6f76c4b1488f87f428e2962af2f75fd0b16dc500873efe25a741d23ebfccb721", func := "spindle/spindlelaw05.BayWears", spec := "bayWears", unfollowed := true, recurses := true, apart := false }
def BayWearsSaid : Prop := bayWearsRow.holds Try.pinned (OpenSpec.ofChange bayWearsSpec)

/-- ITS FALSE NEIGHBOUR: 'it returns false'. Refute it at one input. -/
def bayWearsWrong : ChangeSpec := { name := "bayWears", fn := fun _ => fun
  | [d1, d2, d3] => { results := [.lit (.bool false)], args := [d1, d2, d3] }
  | _ => none }
def BayWearsWrongFalsely : Prop := bayWearsRow.holds Try.pinned (OpenSpec.ofChange bayWearsWrong)

/-- 'spindlelaw05.BayTrips': WHATEVER THE INPUT: true; the input reads as it did. -/
def bayTripsSpec : ChangeSpec := { name := "bayTrips", fn := fun _ => fun
  | [d1, d2, d3, d4] => { results := [.lit (.bool true)], args := [d1, d2, d3, d4] }
  | _ => none }
def bayTripsRow : OpenClaim := { program := "ytghnbbpoaeheaaa", sum := "6f76c4b1488f87f428e2962af2f75fd0b16dc500873efe25a741d23ebfccb721", func := "spindle/spindlelaw05.BayTrips", spec := "bayTrips", unfollowed := true, recurses := true, apart := false }
def BayTripsSaid : Prop := bayTripsRow.holds Try.pinned (OpenSpec.ofChange bayTripsSpec)

/-- ITS FALSE NEIGHBOUR: 'it returns false'. Refute it at one input. -/
def bayTripsWrong : ChangeSpec := { name := "bayTrips", fn := fun _ => fun
  | [d1, d2, d3, d4] => { results := [.lit (.bool false)], args := [d1, d2, d3, d4] }
  | _ => none }
def BayTripsWrongFalsely : Prop := bayTripsRow.holds Try.pinned (OpenSpec.ofChange bayTripsWrong)

/-- 'spindlelaw05.BayAlone': WHATEVER THE INPUT: true; the input reads as it did. -/
def bayAloneSpec : ChangeSpec := { name := "bayAlone", fn := fun _ => fun
  | [d1, d2, d3] => { results := [.lit (.bool true)], args := [d1, d2, d3] }
  | _ => none }
def bayAloneRow : OpenClaim := { program := "ytghnbbpoaeheaaa", sum := "6f76c4b1488f87f428e2962af2f75fd0b16dc500873efe25a741d23ebfccb721", func := "spindle/spindlelaw05.BayAlone", spec := "bayAlone", unfollowed := true, recurses := true, apart := false }
def BayAloneSaid : Prop := bayAloneRow.holds Try.pinned (OpenSpec.ofChange bayAloneSpec)

/-- ITS FALSE NEIGHBOUR: 'it returns false'. Refute it at one input. -/
def bayAloneWrong : ChangeSpec := { name := "bayAlone", fn := fun _ => fun
  | [d1, d2, d3] => { results := [.lit (.bool false)], args := [d1, d2, d3] }
  | _ => none }
def BayAloneWrongFalsely : Prop := bayAloneRow.holds Try.pinned (OpenSpec.ofChange bayAloneWrong)

/-- 'spindlelaw05.BayCuts': WHATEVER THE INPUT: true; the input reads as it did. -/
def bayCutsSpec : ChangeSpec := { name := "bayCuts", fn := fun _ => fun
  | [d1, d2, d3, d4, d5] => { results := [.lit (.bool true)], args := [d1, d2, d3, d4, d5] }
  | _ => none }
def bayCutsRow : OpenClaim := { program := "ytghnbbpoaeheaaa", sum := "6f76c4b1488f87f428e2962af2f75fd0b16dc500873efe25a741d23ebfccb721", func := "spindle/spindlelaw05.BayCuts", spec := "bayCuts", unfollowed := true, recurses := true, apart := false }
def BayCutsSaid : Prop := bayCutsRow.holds Try.pinned (OpenSpec.ofChange bayCutsSpec)

/-- ITS FALSE NEIGHBOUR: 'it returns false'. Refute it at one input. -/
def bayCutsWrong : ChangeSpec := { name := "bayCuts", fn := fun _ => fun
  | [d1, d2, d3, d4, d5] => { results := [.lit (.bool false)], args := [d1, d2, d3, d4, d5] }
  | _ => none }
def BayCutsWrongFalsely : Prop := bayCutsRow.holds Try.pinned (OpenSpec.ofChange bayCutsWrong)

/-- 'spindlelaw05.BayTwo': WHATEVER THE INPUT: true; the input reads as it did. -/
def bayTwoSpec : ChangeSpec := { name := "bayTwo", fn := fun _ => fun
  | [d1, d2] => { results := [.lit (.bool true)], args := [d1, d2] }
  | _ => none }
def bayTwoRow : OpenClaim := { program := "ytghnbbpoaeheaaa", sum := "6f76c4b1488f87f428e2962af2f75fd0b16dc500873efe25a741d23ebfccb721", func := "spindle/spindlelaw05.BayTwo", spec := "bayTwo", unfollowed := true, recurses := true, apart := false }
def BayTwoSaid : Prop := bayTwoRow.holds Try.pinned (OpenSpec.ofChange bayTwoSpec)

/-- ITS FALSE NEIGHBOUR: 'it returns false'. Refute it at one input. -/
def bayTwoWrong : ChangeSpec := { name := "bayTwo", fn := fun _ => fun
  | [d1, d2] => { results := [.lit (.bool false)], args := [d1, d2] }
  | _ => none }
def BayTwoWrongFalsely : Prop := bayTwoRow.holds Try.pinned (OpenSpec.ofChange bayTwoWrong)

/-- 'spindlelaw05.BayAway': WHATEVER THE INPUT: true; the input reads as it did. -/
def bayAwaySpec : ChangeSpec := { name := "bayAway", fn := fun _ => fun
  | [d1, d2, d3, d4] => { results := [.lit (.bool true)], args := [d1, d2, d3, d4] }
  | _ => none }
def bayAwayRow : OpenClaim := { program := "ytghnbbpoaeheaaa", sum := "6f76c4b1488f87f428e2962af2f75fd0b16dc500873efe25a741d23ebfccb721", func := "spindle/spindlelaw05.BayAway", spec := "bayAway", unfollowed := true, recurses := true, apart := false }
def BayAwaySaid : Prop := bayAwayRow.holds Try.pinned (OpenSpec.ofChange bayAwaySpec)

/-- ITS FALSE NEIGHBOUR: 'it returns false'. Refute it at one input. -/
def bayAwayWrong : ChangeSpec := { name := "bayAway", fn := fun _ => fun
  | [d1, d2, d3, d4] => { results := [.lit (.bool false)], args := [d1, d2, d3, d4] }
  | _ => none }
def BayAwayWrongFalsely : Prop := bayAwayRow.holds Try.pinned (OpenSpec.ofChange bayAwayWrong)

/-- 'spindlelaw05.BaySlots': WHATEVER THE INPUT: true; the input reads as it did. -/
def baySlotsSpec : ChangeSpec := { name := "baySlots", fn := fun _ => fun
  | [d1, d2, d3] => { results := [.lit (.bool true)], args := [d1, d2, d3] }
  | _ => none }
def baySlotsRow : OpenClaim := { program := "ytghnbbpoaeheaaa", sum := "6f76c4b1488f87f428e2962af2f75fd0b16dc500873efe25a741d23ebfccb721", func := "spindle/spindlelaw05.BaySlots", spec := "baySlots", unfollowed := true, recurses := true, apart := false }
def BaySlotsSaid : Prop := baySlotsRow.holds Try.pinned (OpenSpec.ofChange baySlotsSpec)

/-- ITS FALSE NEIGHBOUR: 'it returns false'. Refute it at one input. -/
def baySlotsWrong : ChangeSpec := { name := "baySlots", fn := fun _ => fun
  | [d1, d2, d3] => { results := [.lit (.bool false)], args := [d1, d2, d3] }
  | _ => none }
def BaySlotsWrongFalsely : Prop := baySlotsRow.holds Try.pinned (OpenSpec.ofChange baySlotsWrong)

/- THE SECOND FORM. 'bulk': how many values and letters a reading holds, each counted each time it is reached (what is shared counts as often as it is met; a slice's spare places count too). A statement '..UptoSaid' is the law's where the arguments, and the package variables that the reading takes, are together of bulk at most 1048576: NARROWER than '..Said'. Prove '..Said' where nothing that the law and all that it calls make is longer than what came in: it says more and counts as full. Else prove '..UptoSaid'. A law counts once. -/
mutual
def uptoBulk {H : Type} : DataW H → Nat
  | .lit (.string bytes) => bytes.length + 1
  | .lit _ => 1
  | .nil => 1
  | .ptr d => uptoBulk d + 1
  | .slice elems spare => uptoBulkAll elems + uptoBulkAll spare + 1
  | .agg parts => uptoBulkAll parts + 1
  | .iface _ d => uptoBulk d + 1
  | .map entries => uptoBulkEntries entries + 1
  | .held _ => 1
def uptoBulkAll {H : Type} : List (DataW H) → Nat
  | [] => 0
  | d :: r => uptoBulk d + uptoBulkAll r
def uptoBulkEntries {H : Type} : List (Lit × DataW H) → Nat
  | [] => 0
  | x :: r => uptoBulkEntry x + uptoBulkEntries r
def uptoBulkEntry {H : Type} : Lit × DataW H → Nat
  | (.string bytes, d) => bytes.length + uptoBulk d + 1
  | (_, d) => uptoBulk d + 1
 end
def uptoSmall : (H : Type) → List (DataW H) → Bool := fun _ ds => decide (uptoBulkAll ds ≤ 1048576)
def OpenSpec.upto (s : _root_.Go.ChangeSpec) : _root_.Go.OpenSpec := { _root_.Go.OpenSpec.ofChange s with cond := some uptoSmall }

/-- 'spindlelaw04.DiskLoads', WHERE WHAT IT READS IS OF BULK AT MOST 1048576: true; the input reads as it did. -/
def diskLoadsUptoRow : OpenClaim := { program := "ytghnbbpoaeheaaa", sum := "6f76c4b1488f87f428e2962af2f75fd0b16dc500873efe25a741d23ebfccb721", func := "spindle/spindlelaw04.DiskLoads", spec := "diskLoads", unfollowed := true, recurses := true, apart := false, narrowed := true }
def DiskLoadsUptoSaid : Prop := diskLoadsUptoRow.holds Try.pinned (OpenSpec.upto diskLoadsSpec)

/-- 'spindlelaw05.BayWears', WHERE WHAT IT READS IS OF BULK AT MOST 1048576: true; the input reads as it did. -/
def bayWearsUptoRow : OpenClaim := { program := "ytghnbbpoaeheaaa", sum := "6f76c4b1488f87f428e2962af2f75fd0b16dc500873efe25a741d23ebfccb721", func := "spindle/spindlelaw05.BayWears", spec := "bayWears", unfollowed := true, recurses := true, apart := false, narrowed := true }
def BayWearsUptoSaid : Prop := bayWearsUptoRow.holds Try.pinned (OpenSpec.upto bayWearsSpec)

/-- 'spindlelaw05.BayTrips', WHERE WHAT IT READS IS OF BULK AT MOST 1048576: true; the input reads as it did. -/
def bayTripsUptoRow : OpenClaim := { program := "ytghnbbpoaeheaaa", sum := "6f76c4b1488f87f428e2962af2f75fd0b16dc500873efe25a741d23ebfccb721", func := "spindle/spindlelaw05.BayTrips", spec := "bayTrips", unfollowed := true, recurses := true, apart := false, narrowed := true }
def BayTripsUptoSaid : Prop := bayTripsUptoRow.holds Try.pinned (OpenSpec.upto bayTripsSpec)

/-- 'spindlelaw05.BayAlone', WHERE WHAT IT READS IS OF BULK AT MOST 1048576: true; the input reads as it did. -/
def bayAloneUptoRow : OpenClaim := { program := "ytghnbbpoaeheaaa", sum := "6f76c4b1488f87f428e2962af2f75fd0b16dc500873efe25a741d23ebfccb721", func := "spindle/spindlelaw05.BayAlone", spec := "bayAlone", unfollowed := true, recurses := true, apart := false, narrowed := true }
def BayAloneUptoSaid : Prop := bayAloneUptoRow.holds Try.pinned (OpenSpec.upto bayAloneSpec)

/-- 'spindlelaw05.BayCuts', WHERE WHAT IT READS IS OF BULK AT MOST 1048576: true; the input reads as it did. -/
def bayCutsUptoRow : OpenClaim := { program := "ytghnbbpoaeheaaa", sum := "6f76c4b1488f87f428e2962af2f75fd0b16dc500873efe25a741d23ebfccb721", func := "spindle/spindlelaw05.BayCuts", spec := "bayCuts", unfollowed := true, recurses := true, apart := false, narrowed := true }
def BayCutsUptoSaid : Prop := bayCutsUptoRow.holds Try.pinned (OpenSpec.upto bayCutsSpec)

/-- 'spindlelaw05.BayTwo', WHERE WHAT IT READS IS OF BULK AT MOST 1048576: true; the input reads as it did. -/
def bayTwoUptoRow : OpenClaim := { program := "ytghnbbpoaeheaaa", sum := "6f76c4b1488f87f428e2962af2f75fd0b16dc500873efe25a741d23ebfccb721", func := "spindle/spindlelaw05.BayTwo", spec := "bayTwo", unfollowed := true, recurses := true, apart := false, narrowed := true }
def BayTwoUptoSaid : Prop := bayTwoUptoRow.holds Try.pinned (OpenSpec.upto bayTwoSpec)

/-- 'spindlelaw05.BayAway', WHERE WHAT IT READS IS OF BULK AT MOST 1048576: true; the input reads as it did. -/
def bayAwayUptoRow : OpenClaim := { program := "ytghnbbpoaeheaaa", sum := "6f76c4b1488f87f428e2962af2f75fd0b16dc500873efe25a741d23ebfccb721", func := "spindle/spindlelaw05.BayAway", spec := "bayAway", unfollowed := true, recurses := true, apart := false, narrowed := true }
def BayAwayUptoSaid : Prop := bayAwayUptoRow.holds Try.pinned (OpenSpec.upto bayAwaySpec)

/-- 'spindlelaw05.BaySlots', WHERE WHAT IT READS IS OF BULK AT MOST 1048576: true; the input reads as it did. -/
def baySlotsUptoRow : OpenClaim := { program := "ytghnbbpoaeheaaa", sum := "6f76c4b1488f87f428e2962af2f75fd0b16dc500873efe25a741d23ebfccb721", func := "spindle/spindlelaw05.BaySlots", spec := "baySlots", unfollowed := true, recurses := true, apart := false, narrowed := true }
def BaySlotsUptoSaid : Prop := baySlotsUptoRow.holds Try.pinned (OpenSpec.upto baySlotsSpec)

end Rows
end Go.Proofs.Ytghnbbpoaeheaaa
