/-
  No cell of these rows narrows 'for every input' (looked for: loops, veiled, ifaces, maps, wideKeys, modest, calm, conditions, laid).
  DERIVED. THE GIVEN ROWS OF THIS SEAT. 10 by the template 'for every input the law returns true; each argument reads behind the call as it read before'; 0 by the template 'total and deterministic' (their statements: YtfihdaoakfdlpaaGreatTotals.lean).
  GIVEN WITH THE SEED: the statements are not yours to turn. If you find one false, say at which input.
  Laid BY PROGRAM, IN A SANDBOX (cutbox-rows.mjs): the forced cells as the released guide's own fill.sh prints them over the translation d389c44f1916f521… (all of the seat's roots in one cut). By AI agents, Wed Nov 11 2026. No macro, syntax, notation, axiom, sorry.
-/
import Derived.Test.YtfihdaoakfdlpaaGreatChecked
import GoSem.Claim
import GoSem.ClaimJoined
import GoSem.ClaimMapViews
import Derived.JoinedTies
import Derived.KernelRfl
namespace Go.Proofs.YtfihdaoakfdlpaaGreat
/- THE CELL 'sum', in the pinned program and in every row, IS THE sha256 OF THE DUMP (.gsa) THAT YtfihdaoakfdlpaaGreatProg.lean LOADS. Nothing in Lean hashes anything: it is a label: what it is worth is what the hold of that sum in a sandbox is worth. -/
noncomputable def Tryz.pinned : Pinned := { name := "ytfihdaoakfdlpaagreat", sum := "d389c44f1916f521a8ceed333f624dfc78ed8e71a61fefc150a4f9e91f27579b", checked := Tryz.checked }
namespace Rows
def none {H : Type} : Left H := { results := [], args := [] }

/-- 'glisterlaw03.RelayLatest': WHATEVER THE INPUT: true; the input reads as it did. -/
def relayLatestSpec : ChangeSpec := { name := "relayLatest", fn := fun _ => fun
  | [d1, d2, d3, d4, d5] => { results := [.lit (.bool true)], args := [d1, d2, d3, d4, d5] }
  | _ => none }
def relayLatestRow : OpenClaim := { program := "ytfihdaoakfdlpaagreat", sum := "d389c44f1916f521a8ceed333f624dfc78ed8e71a61fefc150a4f9e91f27579b", func := "glister/glisterlaw03.RelayLatest", spec := "relayLatest", unfollowed := true, recurses := true, plainKeys := false, apart := false }
def RelayLatestSaid : Prop := relayLatestRow.holds Tryz.pinned (OpenSpec.ofChange relayLatestSpec)

/-- ITS FALSE NEIGHBOUR: 'it returns false'. Refute it at one input. -/
def relayLatestWrong : ChangeSpec := { name := "relayLatest", fn := fun _ => fun
  | [d1, d2, d3, d4, d5] => { results := [.lit (.bool false)], args := [d1, d2, d3, d4, d5] }
  | _ => none }
def RelayLatestWrongFalsely : Prop := relayLatestRow.holds Tryz.pinned (OpenSpec.ofChange relayLatestWrong)

/-- 'glisterlaw03.RelayHours': WHATEVER THE INPUT: true; the input reads as it did. -/
def relayHoursSpec : ChangeSpec := { name := "relayHours", fn := fun _ => fun
  | [d1, d2, d3, d4, d5] => { results := [.lit (.bool true)], args := [d1, d2, d3, d4, d5] }
  | _ => none }
def relayHoursRow : OpenClaim := { program := "ytfihdaoakfdlpaagreat", sum := "d389c44f1916f521a8ceed333f624dfc78ed8e71a61fefc150a4f9e91f27579b", func := "glister/glisterlaw03.RelayHours", spec := "relayHours", unfollowed := true, recurses := true, plainKeys := false, apart := false }
def RelayHoursSaid : Prop := relayHoursRow.holds Tryz.pinned (OpenSpec.ofChange relayHoursSpec)

/-- ITS FALSE NEIGHBOUR: 'it returns false'. Refute it at one input. -/
def relayHoursWrong : ChangeSpec := { name := "relayHours", fn := fun _ => fun
  | [d1, d2, d3, d4, d5] => { results := [.lit (.bool false)], args := [d1, d2, d3, d4, d5] }
  | _ => none }
def RelayHoursWrongFalsely : Prop := relayHoursRow.holds Tryz.pinned (OpenSpec.ofChange relayHoursWrong)

/-- 'glisterlaw03.RelayCases': WHATEVER THE INPUT: true; the input reads as it did. -/
def relayCasesSpec : ChangeSpec := { name := "relayCases", fn := fun _ => fun
  | [d1, d2, d3, d4, d5] => { results := [.lit (.bool true)], args := [d1, d2, d3, d4, d5] }
  | _ => none }
def relayCasesRow : OpenClaim := { program := "ytfihdaoakfdlpaagreat", sum := "d389c44f1916f521a8ceed333f624dfc78ed8e71a61fefc150a4f9e91f27579b", func := "glister/glisterlaw03.RelayCases", spec := "relayCases", unfollowed := true, recurses := true, plainKeys := false, apart := false }
def RelayCasesSaid : Prop := relayCasesRow.holds Tryz.pinned (OpenSpec.ofChange relayCasesSpec)

/-- ITS FALSE NEIGHBOUR: 'it returns false'. Refute it at one input. -/
def relayCasesWrong : ChangeSpec := { name := "relayCases", fn := fun _ => fun
  | [d1, d2, d3, d4, d5] => { results := [.lit (.bool false)], args := [d1, d2, d3, d4, d5] }
  | _ => none }
def RelayCasesWrongFalsely : Prop := relayCasesRow.holds Tryz.pinned (OpenSpec.ofChange relayCasesWrong)

/-- 'glisterlaw03.RelayTables': WHATEVER THE INPUT: true; the input reads as it did. -/
def relayTablesSpec : ChangeSpec := { name := "relayTables", fn := fun _ => fun
  | [d1, d2, d3, d4, d5] => { results := [.lit (.bool true)], args := [d1, d2, d3, d4, d5] }
  | _ => none }
def relayTablesRow : OpenClaim := { program := "ytfihdaoakfdlpaagreat", sum := "d389c44f1916f521a8ceed333f624dfc78ed8e71a61fefc150a4f9e91f27579b", func := "glister/glisterlaw03.RelayTables", spec := "relayTables", unfollowed := true, recurses := true, plainKeys := false, apart := false }
def RelayTablesSaid : Prop := relayTablesRow.holds Tryz.pinned (OpenSpec.ofChange relayTablesSpec)

/-- ITS FALSE NEIGHBOUR: 'it returns false'. Refute it at one input. -/
def relayTablesWrong : ChangeSpec := { name := "relayTables", fn := fun _ => fun
  | [d1, d2, d3, d4, d5] => { results := [.lit (.bool false)], args := [d1, d2, d3, d4, d5] }
  | _ => none }
def RelayTablesWrongFalsely : Prop := relayTablesRow.holds Tryz.pinned (OpenSpec.ofChange relayTablesWrong)

/-- 'glisterlaw03.RelayProved': WHATEVER THE INPUT: true; the input reads as it did. -/
def relayProvedSpec : ChangeSpec := { name := "relayProved", fn := fun _ => fun
  | [d1, d2, d3, d4, d5] => { results := [.lit (.bool true)], args := [d1, d2, d3, d4, d5] }
  | _ => none }
def relayProvedRow : OpenClaim := { program := "ytfihdaoakfdlpaagreat", sum := "d389c44f1916f521a8ceed333f624dfc78ed8e71a61fefc150a4f9e91f27579b", func := "glister/glisterlaw03.RelayProved", spec := "relayProved", unfollowed := true, recurses := true, plainKeys := false, apart := false }
def RelayProvedSaid : Prop := relayProvedRow.holds Tryz.pinned (OpenSpec.ofChange relayProvedSpec)

/-- ITS FALSE NEIGHBOUR: 'it returns false'. Refute it at one input. -/
def relayProvedWrong : ChangeSpec := { name := "relayProved", fn := fun _ => fun
  | [d1, d2, d3, d4, d5] => { results := [.lit (.bool false)], args := [d1, d2, d3, d4, d5] }
  | _ => none }
def RelayProvedWrongFalsely : Prop := relayProvedRow.holds Tryz.pinned (OpenSpec.ofChange relayProvedWrong)

/-- 'glisterlaw03.RelayRoutes': WHATEVER THE INPUT: true; the input reads as it did. -/
def relayRoutesSpec : ChangeSpec := { name := "relayRoutes", fn := fun _ => fun
  | [d1, d2, d3, d4, d5, d6] => { results := [.lit (.bool true)], args := [d1, d2, d3, d4, d5, d6] }
  | _ => none }
def relayRoutesRow : OpenClaim := { program := "ytfihdaoakfdlpaagreat", sum := "d389c44f1916f521a8ceed333f624dfc78ed8e71a61fefc150a4f9e91f27579b", func := "glister/glisterlaw03.RelayRoutes", spec := "relayRoutes", unfollowed := true, recurses := true, plainKeys := false, apart := false }
def RelayRoutesSaid : Prop := relayRoutesRow.holds Tryz.pinned (OpenSpec.ofChange relayRoutesSpec)

/-- ITS FALSE NEIGHBOUR: 'it returns false'. Refute it at one input. -/
def relayRoutesWrong : ChangeSpec := { name := "relayRoutes", fn := fun _ => fun
  | [d1, d2, d3, d4, d5, d6] => { results := [.lit (.bool false)], args := [d1, d2, d3, d4, d5, d6] }
  | _ => none }
def RelayRoutesWrongFalsely : Prop := relayRoutesRow.holds Tryz.pinned (OpenSpec.ofChange relayRoutesWrong)

/-- 'glisterlaw03.RelaySticks': WHATEVER THE INPUT: true; the input reads as it did. -/
def relaySticksSpec : ChangeSpec := { name := "relaySticks", fn := fun _ => fun
  | [d1, d2, d3, d4] => { results := [.lit (.bool true)], args := [d1, d2, d3, d4] }
  | _ => none }
def relaySticksRow : OpenClaim := { program := "ytfihdaoakfdlpaagreat", sum := "d389c44f1916f521a8ceed333f624dfc78ed8e71a61fefc150a4f9e91f27579b", func := "glister/glisterlaw03.RelaySticks", spec := "relaySticks", unfollowed := true, recurses := true, plainKeys := false, apart := false }
def RelaySticksSaid : Prop := relaySticksRow.holds Tryz.pinned (OpenSpec.ofChange relaySticksSpec)

/-- ITS FALSE NEIGHBOUR: 'it returns false'. Refute it at one input. -/
def relaySticksWrong : ChangeSpec := { name := "relaySticks", fn := fun _ => fun
  | [d1, d2, d3, d4] => { results := [.lit (.bool false)], args := [d1, d2, d3, d4] }
  | _ => none }
def RelaySticksWrongFalsely : Prop := relaySticksRow.holds Tryz.pinned (OpenSpec.ofChange relaySticksWrong)

/-- 'glisterlaw03.RelayQuicker': WHATEVER THE INPUT: true; the input reads as it did. -/
def relayQuickerSpec : ChangeSpec := { name := "relayQuicker", fn := fun _ => fun
  | [d1, d2, d3, d4, d5] => { results := [.lit (.bool true)], args := [d1, d2, d3, d4, d5] }
  | _ => none }
def relayQuickerRow : OpenClaim := { program := "ytfihdaoakfdlpaagreat", sum := "d389c44f1916f521a8ceed333f624dfc78ed8e71a61fefc150a4f9e91f27579b", func := "glister/glisterlaw03.RelayQuicker", spec := "relayQuicker", unfollowed := true, recurses := true, plainKeys := false, apart := false }
def RelayQuickerSaid : Prop := relayQuickerRow.holds Tryz.pinned (OpenSpec.ofChange relayQuickerSpec)

/-- ITS FALSE NEIGHBOUR: 'it returns false'. Refute it at one input. -/
def relayQuickerWrong : ChangeSpec := { name := "relayQuicker", fn := fun _ => fun
  | [d1, d2, d3, d4, d5] => { results := [.lit (.bool false)], args := [d1, d2, d3, d4, d5] }
  | _ => none }
def RelayQuickerWrongFalsely : Prop := relayQuickerRow.holds Tryz.pinned (OpenSpec.ofChange relayQuickerWrong)

/-- 'glisterlaw03.RelayHome': WHATEVER THE INPUT: true; the input reads as it did. -/
def relayHomeSpec : ChangeSpec := { name := "relayHome", fn := fun _ => fun
  | [d1, d2, d3] => { results := [.lit (.bool true)], args := [d1, d2, d3] }
  | _ => none }
def relayHomeRow : OpenClaim := { program := "ytfihdaoakfdlpaagreat", sum := "d389c44f1916f521a8ceed333f624dfc78ed8e71a61fefc150a4f9e91f27579b", func := "glister/glisterlaw03.RelayHome", spec := "relayHome", unfollowed := true, recurses := true, plainKeys := false, apart := false }
def RelayHomeSaid : Prop := relayHomeRow.holds Tryz.pinned (OpenSpec.ofChange relayHomeSpec)

/-- ITS FALSE NEIGHBOUR: 'it returns false'. Refute it at one input. -/
def relayHomeWrong : ChangeSpec := { name := "relayHome", fn := fun _ => fun
  | [d1, d2, d3] => { results := [.lit (.bool false)], args := [d1, d2, d3] }
  | _ => none }
def RelayHomeWrongFalsely : Prop := relayHomeRow.holds Tryz.pinned (OpenSpec.ofChange relayHomeWrong)

/-- 'glisterlaw03.RelayStops': WHATEVER THE INPUT: true; the input reads as it did. -/
def relayStopsSpec : ChangeSpec := { name := "relayStops", fn := fun _ => fun
  | [d1, d2, d3, d4, d5] => { results := [.lit (.bool true)], args := [d1, d2, d3, d4, d5] }
  | _ => none }
def relayStopsRow : OpenClaim := { program := "ytfihdaoakfdlpaagreat", sum := "d389c44f1916f521a8ceed333f624dfc78ed8e71a61fefc150a4f9e91f27579b", func := "glister/glisterlaw03.RelayStops", spec := "relayStops", unfollowed := true, recurses := true, plainKeys := false, apart := false }
def RelayStopsSaid : Prop := relayStopsRow.holds Tryz.pinned (OpenSpec.ofChange relayStopsSpec)

/-- ITS FALSE NEIGHBOUR: 'it returns false'. Refute it at one input. -/
def relayStopsWrong : ChangeSpec := { name := "relayStops", fn := fun _ => fun
  | [d1, d2, d3, d4, d5] => { results := [.lit (.bool false)], args := [d1, d2, d3, d4, d5] }
  | _ => none }
def RelayStopsWrongFalsely : Prop := relayStopsRow.holds Tryz.pinned (OpenSpec.ofChange relayStopsWrong)

/- THE SECOND FORM. 'bulk': how many values and letters a reading holds, each counted each time it is reached (what is shared counts as often as it is met; a slice's spare places count too). A statement '..UptoSaid' is the law's where the arguments, and the package variables that the reading takes, are together of bulk at most 1048576: NARROWER than '..Said'. Prove '..Said' where nothing that the law and all that it calls make is longer than what came in: it says more and counts as full. Else prove '..UptoSaid'. A law counts once. -/
mutual
def uptoBulk {H : Type} : DataW H → Nat
  | .lit (.string bytes) => bytes.length + 1
  | .lit _ => 1
  | .nil => 1
  | .ptr d => uptoBulk d + 1
  | .slice elems spare => uptoBulkAll elems + uptoBulkAll spare + 1
  | .agg parts => uptoBulkAll parts + 1
  | .iface _ d => uptoBulk d + 1
  | .map entries => uptoBulkEntries entries + 1
  | .held _ => 1
def uptoBulkAll {H : Type} : List (DataW H) → Nat
  | [] => 0
  | d :: r => uptoBulk d + uptoBulkAll r
def uptoBulkEntries {H : Type} : List (Lit × DataW H) → Nat
  | [] => 0
  | x :: r => uptoBulkEntry x + uptoBulkEntries r
def uptoBulkEntry {H : Type} : Lit × DataW H → Nat
  | (.string bytes, d) => bytes.length + uptoBulk d + 1
  | (_, d) => uptoBulk d + 1
 end
def uptoSmall : (H : Type) → List (DataW H) → Bool := fun _ ds => decide (uptoBulkAll ds ≤ 1048576)
def OpenSpec.upto (s : _root_.Go.ChangeSpec) : _root_.Go.OpenSpec := { _root_.Go.OpenSpec.ofChange s with cond := some uptoSmall }

/-- 'glisterlaw03.RelayLatest', WHERE WHAT IT READS IS OF BULK AT MOST 1048576: true; the input reads as it did. -/
def relayLatestUptoRow : OpenClaim := { program := "ytfihdaoakfdlpaagreat", sum := "d389c44f1916f521a8ceed333f624dfc78ed8e71a61fefc150a4f9e91f27579b", func := "glister/glisterlaw03.RelayLatest", spec := "relayLatest", unfollowed := true, recurses := true, plainKeys := false, apart := false, narrowed := true }
def RelayLatestUptoSaid : Prop := relayLatestUptoRow.holds Tryz.pinned (OpenSpec.upto relayLatestSpec)

/-- 'glisterlaw03.RelayHours', WHERE WHAT IT READS IS OF BULK AT MOST 1048576: true; the input reads as it did. -/
def relayHoursUptoRow : OpenClaim := { program := "ytfihdaoakfdlpaagreat", sum := "d389c44f1916f521a8ceed333f624dfc78ed8e71a61fefc150a4f9e91f27579b", func := "glister/glisterlaw03.RelayHours", spec := "relayHours", unfollowed := true, recurses := true, plainKeys := false, apart := false, narrowed := true }
def RelayHoursUptoSaid : Prop := relayHoursUptoRow.holds Tryz.pinned (OpenSpec.upto relayHoursSpec)

/-- 'glisterlaw03.RelayCases', WHERE WHAT IT READS IS OF BULK AT MOST 1048576: true; the input reads as it did. -/
def relayCasesUptoRow : OpenClaim := { program := "ytfihdaoakfdlpaagreat", sum := "d389c44f1916f521a8ceed333f624dfc78ed8e71a61fefc150a4f9e91f27579b", func := "glister/glisterlaw03.RelayCases", spec := "relayCases", unfollowed := true, recurses := true, plainKeys := false, apart := false, narrowed := true }
def RelayCasesUptoSaid : Prop := relayCasesUptoRow.holds Tryz.pinned (OpenSpec.upto relayCasesSpec)

/-- 'glisterlaw03.RelayTables', WHERE WHAT IT READS IS OF BULK AT MOST 1048576: true; the input reads as it did. -/
def relayTablesUptoRow : OpenClaim := { program := "ytfihdaoakfdlpaagreat", sum := "d389c44f1916f521a8ceed333f624dfc78ed8e71a61fefc150a4f9e91f27579b", func := "glister/glisterlaw03.RelayTables", spec := "relayTables", unfollowed := true, recurses := true, plainKeys := false, apart := false, narrowed := true }
def RelayTablesUptoSaid : Prop := relayTablesUptoRow.holds Tryz.pinned (OpenSpec.upto relayTablesSpec)

/-- 'glisterlaw03.RelayProved', WHERE WHAT IT READS IS OF BULK AT MOST 1048576: true; the input reads as it did. -/
def relayProvedUptoRow : OpenClaim := { program := "ytfihdaoakfdlpaagreat", sum := "d389c44f1916f521a8ceed333f624dfc78ed8e71a61fefc150a4f9e91f27579b", func := "glister/glisterlaw03.RelayProved", spec := "relayProved", unfollowed := true, recurses := true, plainKeys := false, apart := false, narrowed := true }
def RelayProvedUptoSaid : Prop := relayProvedUptoRow.holds Tryz.pinned (OpenSpec.upto relayProvedSpec)

/-- 'glisterlaw03.RelayRoutes', WHERE WHAT IT READS IS OF BULK AT MOST 1048576: true; the input reads as it did. -/
def relayRoutesUptoRow : OpenClaim := { program := "ytfihdaoakfdlpaagreat", sum := "d389c44f1916f521a8ceed333f624dfc78ed8e71a61fefc150a4f9e91f27579b", func := "glister/glisterlaw03.RelayRoutes", spec := "relayRoutes", unfollowed := true, recurses := true, plainKeys := false, apart := false, narrowed := true }
def RelayRoutesUptoSaid : Prop := relayRoutesUptoRow.holds Tryz.pinned (OpenSpec.upto relayRoutesSpec)

/-- 'glisterlaw03.RelaySticks', WHERE WHAT IT READS IS OF BULK AT MOST 1048576: true; the input reads as it did. -/
def relaySticksUptoRow : OpenClaim := { program := "ytfihdaoakfdlpaagreat", sum := "d389c44f1916f521a8ceed333f624dfc78ed8e71a61fefc150a4f9e91f27579b", func := "glister/glisterlaw03.RelaySticks", spec := "relaySticks", unfollowed := true, recurses := true, plainKeys := false, apart := false, narrowed := true }
def RelaySticksUptoSaid : Prop := relaySticksUptoRow.holds Tryz.pinned (OpenSpec.upto relaySticksSpec)

/-- 'glisterlaw03.RelayQuicker', WHERE WHAT IT READS IS OF BULK AT MOST 1048576: true; the input reads as it did. -/
def relayQuickerUptoRow : OpenClaim := { program := "ytfihdaoakfdlpaagreat", sum := "d389c44f1916f521a8ceed333f624dfc78ed8e71a61fefc150a4f9e91f27579b", func := "glister/glisterlaw03.RelayQuicker", spec := "relayQuicker", unfollowed := true, recurses := true, plainKeys := false, apart := false, narrowed := true }
def RelayQuickerUptoSaid : Prop := relayQuickerUptoRow.holds Tryz.pinned (OpenSpec.upto relayQuickerSpec)

/-- 'glisterlaw03.RelayHome', WHERE WHAT IT READS IS OF BULK AT MOST 1048576: true; the input reads as it did. -/
def relayHomeUptoRow : OpenClaim := { program := "ytfihdaoakfdlpaagreat", sum := "d389c44f1916f521a8ceed333f624dfc78ed8e71a61fefc150a4f9e91f27579b", func := "glister/glisterlaw03.RelayHome", spec := "relayHome", unfollowed := true, recurses := true, plainKeys := false, apart := false, narrowed := true }
def RelayHomeUptoSaid : Prop := relayHomeUptoRow.holds Tryz.pinned (OpenSpec.upto relayHomeSpec)

/-- 'glisterlaw03.RelayStops', WHERE WHAT IT READS IS OF BULK AT MOST 1048576: true; the input reads as it did. -/
def relayStopsUptoRow : OpenClaim := { program := "ytfihdaoakfdlpaagreat", sum := "d389c44f1916f521a8ceed333f624dfc78ed8e71a61fefc150a4f9e91f27579b", func := "glister/glisterlaw03.RelayStops", spec := "relayStops", unfollowed := true, recurses := true, plainKeys := false, apart := false, narrowed := true }
def RelayStopsUptoSaid : Prop := relayStopsUptoRow.holds Tryz.pinned (OpenSpec.upto relayStopsSpec)

end Rows
end Go.Proofs.YtfihdaoakfdlpaaGreat
