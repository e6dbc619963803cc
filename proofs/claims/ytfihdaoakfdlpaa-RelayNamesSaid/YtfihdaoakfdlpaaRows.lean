/-
  No cell of these rows narrows 'for every input' (looked for: loops, veiled, ifaces, maps, wideKeys, modest, calm, conditions, laid).
  DERIVED. THE GIVEN ROWS OF THIS SEAT. 4 by the template 'for every input the law returns true; each argument reads behind the call as it read before'; 0 by the template 'total and deterministic' (their statements: YtfihdaoakfdlpaaTotals.lean).
  GIVEN WITH THE SEED: the statements are not yours to turn. If you find one false, say at which input.
  Laid BY PROGRAM, IN A SANDBOX (cutbox-rows.mjs): the forced cells as the released guide's own fill.sh prints them over the translation 94d7bebd1bb86c7a… (all of the seat's roots in one cut). By AI agents, Wed Nov 11 2026. No macro, syntax, notation, axiom, sorry.
-/
import Derived.Test.YtfihdaoakfdlpaaChecked
import GoSem.Claim
import GoSem.ClaimJoined
import GoSem.ClaimMapViews
import Derived.JoinedTies
import Derived.KernelRfl
namespace Go.Proofs.Ytfihdaoakfdlpaa
/- THE CELL 'sum', in the pinned program and in every row, IS THE sha256 OF THE DUMP (.gsa) THAT YtfihdaoakfdlpaaProg.lean LOADS. Nothing in Lean hashes anything: it is a label: what it is worth is what the hold of that sum in a sandbox is worth. -/
noncomputable def Try.pinned : Pinned := { name := "ytfihdaoakfdlpaa", sum := "94d7bebd1bb86c7aa90c978c11ccd8fbc1c4b89fcf5e843553de4bb7350c621b", checked := Try.checked }
namespace Rows
def none {H : Type} : Left H := { results := [], args := [] }

/-- 'glisterlaw03.RelayStarts': WHATEVER THE INPUT: true; the input reads as it did. -/
def relayStartsSpec : ChangeSpec := { name := "relayStarts", fn := fun _ => fun
  | [d1, d2, d3, d4, d5] => { results := [.lit (.bool true)], args := [d1, d2, d3, d4, d5] }
  | _ => none }
def relayStartsRow : OpenClaim := { program := "ytfihdaoakfdlpaa", sum := "94d7bebd1bb86c7aa90c978c11ccd8fbc1c4b89fcf5e843553de4bb7350c621b", func := "glister/glisterlaw03.RelayStarts", spec := "relayStarts", unfollowed := true, recurses := true, plainKeys := false, apart := false }
def RelayStartsSaid : Prop := relayStartsRow.holds Try.pinned (OpenSpec.ofChange relayStartsSpec)

/-- ITS FALSE NEIGHBOUR: 'it returns false'. Refute it at one input. -/
def relayStartsWrong : ChangeSpec := { name := "relayStarts", fn := fun _ => fun
  | [d1, d2, d3, d4, d5] => { results := [.lit (.bool false)], args := [d1, d2, d3, d4, d5] }
  | _ => none }
def RelayStartsWrongFalsely : Prop := relayStartsRow.holds Try.pinned (OpenSpec.ofChange relayStartsWrong)

/-- 'glisterlaw03.RelayVital': WHATEVER THE INPUT: true; the input reads as it did. -/
def relayVitalSpec : ChangeSpec := { name := "relayVital", fn := fun _ => fun
  | [d1, d2, d3, d4, d5] => { results := [.lit (.bool true)], args := [d1, d2, d3, d4, d5] }
  | _ => none }
def relayVitalRow : OpenClaim := { program := "ytfihdaoakfdlpaa", sum := "94d7bebd1bb86c7aa90c978c11ccd8fbc1c4b89fcf5e843553de4bb7350c621b", func := "glister/glisterlaw03.RelayVital", spec := "relayVital", unfollowed := true, recurses := true, plainKeys := false, apart := false }
def RelayVitalSaid : Prop := relayVitalRow.holds Try.pinned (OpenSpec.ofChange relayVitalSpec)

/-- ITS FALSE NEIGHBOUR: 'it returns false'. Refute it at one input. -/
def relayVitalWrong : ChangeSpec := { name := "relayVital", fn := fun _ => fun
  | [d1, d2, d3, d4, d5] => { results := [.lit (.bool false)], args := [d1, d2, d3, d4, d5] }
  | _ => none }
def RelayVitalWrongFalsely : Prop := relayVitalRow.holds Try.pinned (OpenSpec.ofChange relayVitalWrong)

/-- 'glisterlaw03.RelayClouds': WHATEVER THE INPUT: true; the input reads as it did. -/
def relayCloudsSpec : ChangeSpec := { name := "relayClouds", fn := fun _ => fun
  | [d1, d2, d3, d4, d5, d6] => { results := [.lit (.bool true)], args := [d1, d2, d3, d4, d5, d6] }
  | _ => none }
def relayCloudsRow : OpenClaim := { program := "ytfihdaoakfdlpaa", sum := "94d7bebd1bb86c7aa90c978c11ccd8fbc1c4b89fcf5e843553de4bb7350c621b", func := "glister/glisterlaw03.RelayClouds", spec := "relayClouds", unfollowed := true, recurses := true, plainKeys := false, apart := false }
def RelayCloudsSaid : Prop := relayCloudsRow.holds Try.pinned (OpenSpec.ofChange relayCloudsSpec)

/-- ITS FALSE NEIGHBOUR: 'it returns false'. Refute it at one input. -/
def relayCloudsWrong : ChangeSpec := { name := "relayClouds", fn := fun _ => fun
  | [d1, d2, d3, d4, d5, d6] => { results := [.lit (.bool false)], args := [d1, d2, d3, d4, d5, d6] }
  | _ => none }
def RelayCloudsWrongFalsely : Prop := relayCloudsRow.holds Try.pinned (OpenSpec.ofChange relayCloudsWrong)

/-- 'glisterlaw03.RelayNames': WHATEVER THE INPUT: true; the input reads as it did. -/
def relayNamesSpec : ChangeSpec := { name := "relayNames", fn := fun _ => fun
  | [] => { results := [.lit (.bool true)], args := [] }
  | _ => none }
def relayNamesRow : OpenClaim := { program := "ytfihdaoakfdlpaa", sum := "94d7bebd1bb86c7aa90c978c11ccd8fbc1c4b89fcf5e843553de4bb7350c621b", func := "glister/glisterlaw03.RelayNames", spec := "relayNames", unfollowed := true, recurses := true, plainKeys := false, apart := false }
def RelayNamesSaid : Prop := relayNamesRow.holds Try.pinned (OpenSpec.ofChange relayNamesSpec)

/-- ITS FALSE NEIGHBOUR: 'it returns false'. Refute it at one input. -/
def relayNamesWrong : ChangeSpec := { name := "relayNames", fn := fun _ => fun
  | [] => { results := [.lit (.bool false)], args := [] }
  | _ => none }
def RelayNamesWrongFalsely : Prop := relayNamesRow.holds Try.pinned (OpenSpec.ofChange relayNamesWrong)

/- THE SECOND FORM. 'bulk': how many values and letters a reading holds, each counted each time it is reached (what is shared counts as often as it is met; a slice's spare places count too). A statement '..UptoSaid' is the law's where the arguments, and the package variables that the reading takes, are together of bulk at most 1048576: NARROWER than '..Said'. Prove '..Said' where nothing that the law and all that it calls make is longer than what came in: it says more and counts as full. Else prove '..UptoSaid'. A law counts once. -/
mutual
def uptoBulk {H : Type} : DataW H → Nat
  | .lit (.string bytes) => bytes.length + 1
  | .lit _ => 1
  | .nil => 1
  | .ptr d => uptoBulk d + 1
  | .slice elems spare => uptoBulkAll elems + uptoBulkAll spare + 1
  | .agg parts => uptoBulkAll parts + 1
  | .iface _ d => uptoBulk d + 1
  | .map entries => uptoBulkEntries entries + 1
  | .held _ => 1
def uptoBulkAll {H : Type} : List (DataW H) → Nat
  | [] => 0
  | d :: r => uptoBulk d + uptoBulkAll r
def uptoBulkEntries {H : Type} : List (Lit × DataW H) → Nat
  | [] => 0
  | x :: r => uptoBulkEntry x + uptoBulkEntries r
def uptoBulkEntry {H : Type} : Lit × DataW H → Nat
  | (.string bytes, d) => bytes.length + uptoBulk d + 1
  | (_, d) => uptoBulk d + 1
 end
def uptoSmall : (H : Type) → List (DataW H) → Bool := fun _ ds => decide (uptoBulkAll ds ≤ 1048576)
def OpenSpec.upto (s : _root_.Go.ChangeSpec) : _root_.Go.OpenSpec := { _root_.Go.OpenSpec.ofChange s with cond := some uptoSmall }

/-- 'glisterlaw03.RelayStarts', WHERE WHAT IT READS IS OF BULK AT MOST 1048576: true; the input reads as it did. -/
def relayStartsUptoRow : OpenClaim := { program := "ytfihdaoakfdlpaa", sum := "94d7bebd1bb86c7aa90c978c11ccd8fbc1c4b89fcf5e843553de4bb7350c621b", func := "glister/glisterlaw03.RelayStarts", spec := "relayStarts", unfollowed := true, recurses := true, plainKeys := false, apart := false, narrowed := true }
def RelayStartsUptoSaid : Prop := relayStartsUptoRow.holds Try.pinned (OpenSpec.upto relayStartsSpec)

/-- 'glisterlaw03.RelayVital', WHERE WHAT IT READS IS OF BULK AT MOST 1048576: true; the input reads as it did. -/
def relayVitalUptoRow : OpenClaim := { program := "ytfihdaoakfdlpaa", sum := "94d7bebd1bb86c7aa90c978c11ccd8fbc1c4b89fcf5e843553de4bb7350c621b", func := "glister/glisterlaw03.RelayVital", spec := "relayVital", unfollowed := true, recurses := true, plainKeys := false, apart := false, narrowed := true }
def RelayVitalUptoSaid : Prop := relayVitalUptoRow.holds Try.pinned (OpenSpec.upto relayVitalSpec)

/-- 'glisterlaw03.RelayClouds', WHERE WHAT IT READS IS OF BULK AT MOST 1048576: true; the input reads as it did. -/
def relayCloudsUptoRow : OpenClaim := { program := "ytfihdaoakfdlpaa", sum := "94d7bebd1bb86c7aa90c978c11ccd8fbc1c4b89fcf5e843553de4bb7350c621b", func := "glister/glisterlaw03.RelayClouds", spec := "relayClouds", unfollowed := true, recurses := true, plainKeys := false, apart := false, narrowed := true }
def RelayCloudsUptoSaid : Prop := relayCloudsUptoRow.holds Try.pinned (OpenSpec.upto relayCloudsSpec)

/-- 'glisterlaw03.RelayNames', WHERE WHAT IT READS IS OF BULK AT MOST 1048576: true; the input reads as it did. -/
def relayNamesUptoRow : OpenClaim := { program := "ytfihdaoakfdlpaa", sum := "94d7bebd1bb86c7aa90c978c11ccd8fbc1c4b89fcf5e843553de4bb7350c621b", func := "glister/glisterlaw03.RelayNames", spec := "relayNames", unfollowed := true, recurses := true, plainKeys := false, apart := false, narrowed := true }
def RelayNamesUptoSaid : Prop := relayNamesUptoRow.holds Try.pinned (OpenSpec.upto relayNamesSpec)

end Rows
end Go.Proofs.Ytfihdaoakfdlpaa
