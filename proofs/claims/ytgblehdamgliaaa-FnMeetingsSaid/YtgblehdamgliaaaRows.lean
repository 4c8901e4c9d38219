/-
  No cell of these rows narrows 'for every input' (looked for: loops, veiled, ifaces, maps, wideKeys, modest, calm, conditions, laid).
  DERIVED. THE GIVEN ROWS OF THIS SEAT. 3 by the template 'for every input the law returns true; each argument reads behind the call as it read before'; 0 by the template 'total and deterministic' (their statements: YtgblehdamgliaaaTotals.lean).
  GIVEN WITH THE SEED: the statements are not yours to turn. If you find one false, say at which input.
  Laid BY PROGRAM, IN A SANDBOX (cutbox-rows.mjs): the forced cells as the released guide's own fill.sh prints them over the translation 7ef7d3ac4495b93f… (all of the seat's roots in one cut). By AI agents, Wed Nov 11 2026. No macro, syntax, notation, axiom, sorry.
-/
import Derived.Test.YtgblehdamgliaaaChecked
import GoSem.Claim
import GoSem.ClaimJoined
import GoSem.ClaimMapViews
import Derived.JoinedTies
import Derived.KernelRfl
namespace Go.Proofs.Ytgblehdamgliaaa
/- THE CELL 'sum', in the pinned program and in every row, IS THE sha256 OF THE DUMP (.gsa) THAT YtgblehdamgliaaaProg.lean LOADS. Nothing in Lean hashes anything: it is a label: what it is worth is what the hold of that sum in a sandbox is worth. -/
noncomputable def Try.pinned : Pinned := { name := "ytgblehdamgliaaa", sum := "7ef7d3ac4495b93f85af59d5d15ae82349efbfdedf46fd7f416e34651ae13367", checked := Try.checked }
namespace Rows
def none {H : Type} : Left H := { results := [], args := [] }

/-- 'laws.FnPushes': WHATEVER THE INPUT: true; the input reads as it did. -/
def fnPushesSpec : ChangeSpec := { name := "fnPushes", fn := fun _ => fun
  | [d1, d2] => { results := [.lit (.bool true)], args := [d1, d2] }
  | _ => none }
def fnPushesRow : OpenClaim := { program := "ytgblehdamgliaaa", sum := "7ef7d3ac4495b93f85af59d5d15ae82349efbfdedf46fd7f416e34651ae13367", func := "loop.example/g01226/laws.FnPushes", spec := "fnPushes", inPlace := ["math.sqrt"], apart := false }
def FnPushesSaid : Prop := fnPushesRow.holds Try.pinned (OpenSpec.ofChange fnPushesSpec)

/-- ITS FALSE NEIGHBOUR: 'it returns false'. Refute it at one input. -/
def fnPushesWrong : ChangeSpec := { name := "fnPushes", fn := fun _ => fun
  | [d1, d2] => { results := [.lit (.bool false)], args := [d1, d2] }
  | _ => none }
def FnPushesWrongFalsely : Prop := fnPushesRow.holds Try.pinned (OpenSpec.ofChange fnPushesWrong)

/-- 'laws.FnOrbits': WHATEVER THE INPUT: true; the input reads as it did. -/
def fnOrbitsSpec : ChangeSpec := { name := "fnOrbits", fn := fun _ => fun
  | [d1, d2] => { results := [.lit (.bool true)], args := [d1, d2] }
  | _ => none }
def fnOrbitsRow : OpenClaim := { program := "ytgblehdamgliaaa", sum := "7ef7d3ac4495b93f85af59d5d15ae82349efbfdedf46fd7f416e34651ae13367", func := "loop.example/g01226/laws.FnOrbits", spec := "fnOrbits", inPlace := ["math.sqrt", "math.Float64bits", "math.Float64frombits", "math.Float32bits"], apart := false }
def FnOrbitsSaid : Prop := fnOrbitsRow.holds Try.pinned (OpenSpec.ofChange fnOrbitsSpec)

/-- ITS FALSE NEIGHBOUR: 'it returns false'. Refute it at one input. -/
def fnOrbitsWrong : ChangeSpec := { name := "fnOrbits", fn := fun _ => fun
  | [d1, d2] => { results := [.lit (.bool false)], args := [d1, d2] }
  | _ => none }
def FnOrbitsWrongFalsely : Prop := fnOrbitsRow.holds Try.pinned (OpenSpec.ofChange fnOrbitsWrong)

/-- 'laws.FnMeetings': WHATEVER THE INPUT: true; the input reads as it did. -/
def fnMeetingsSpec : ChangeSpec := { name := "fnMeetings", fn := fun _ => fun
  | [d1, d2] => { results := [.lit (.bool true)], args := [d1, d2] }
  | _ => none }
def fnMeetingsRow : OpenClaim := { program := "ytgblehdamgliaaa", sum := "7ef7d3ac4495b93f85af59d5d15ae82349efbfdedf46fd7f416e34651ae13367", func := "loop.example/g01226/laws.FnMeetings", spec := "fnMeetings", inPlace := ["math.Float64frombits", "math.Float64bits", "math.archTrunc", "math.sqrt", "math.Float32bits"], unfollowed := true, recurses := true, apart := false }
def FnMeetingsSaid : Prop := fnMeetingsRow.holds Try.pinned (OpenSpec.ofChange fnMeetingsSpec)

/-- ITS FALSE NEIGHBOUR: 'it returns false'. Refute it at one input. -/
def fnMeetingsWrong : ChangeSpec := { name := "fnMeetings", fn := fun _ => fun
  | [d1, d2] => { results := [.lit (.bool false)], args := [d1, d2] }
  | _ => none }
def FnMeetingsWrongFalsely : Prop := fnMeetingsRow.holds Try.pinned (OpenSpec.ofChange fnMeetingsWrong)

/- THE SECOND FORM. 'bulk': how many values and letters a reading holds, each counted each time it is reached (what is shared counts as often as it is met; a slice's spare places count too). A statement '..UptoSaid' is the law's where the arguments, and the package variables that the reading takes, are together of bulk at most 1048576: NARROWER than '..Said'. Prove '..Said' where nothing that the law and all that it calls make is longer than what came in: it says more and counts as full. Else prove '..UptoSaid'. A law counts once. -/
mutual
def uptoBulk {H : Type} : DataW H → Nat
  | .lit (.string bytes) => bytes.length + 1
  | .lit _ => 1
  | .nil => 1
  | .ptr d => uptoBulk d + 1
  | .slice elems spare => uptoBulkAll elems + uptoBulkAll spare + 1
  | .agg parts => uptoBulkAll parts + 1
  | .iface _ d => uptoBulk d + 1
  | .map entries => uptoBulkEntries entries + 1
  | .held _ => 1
def uptoBulkAll {H : Type} : List (DataW H) → Nat
  | [] => 0
  | d :: r => uptoBulk d + uptoBulkAll r
def uptoBulkEntries {H : Type} : List (Lit × DataW H) → Nat
  | [] => 0
  | x :: r => uptoBulkEntry x + uptoBulkEntries r
def uptoBulkEntry {H : Type} : Lit × DataW H → Nat
  | (.string bytes, d) => bytes.length + uptoBulk d + 1
  | (_, d) => uptoBulk d + 1
 end
def uptoSmall : (H : Type) → List (DataW H) → Bool := fun _ ds => decide (uptoBulkAll ds ≤ 1048576)
def OpenSpec.upto (s : _root_.Go.ChangeSpec) : _root_.Go.OpenSpec := { _root_.Go.OpenSpec.ofChange s with cond := some uptoSmall }

/-- 'laws.FnPushes', WHERE WHAT IT READS IS OF BULK AT MOST 1048576: true; the input reads as it did. -/
def fnPushesUptoRow : OpenClaim := { program := "ytgblehdamgliaaa", sum := "7ef7d3ac4495b93f85af59d5d15ae82349efbfdedf46fd7f416e34651ae13367", func := "loop.example/g01226/laws.FnPushes", spec := "fnPushes", inPlace := ["math.sqrt"], apart := false, narrowed := true }
def FnPushesUptoSaid : Prop := fnPushesUptoRow.holds Try.pinned (OpenSpec.upto fnPushesSpec)

/-- 'laws.FnOrbits', WHERE WHAT IT READS IS OF BULK AT MOST 1048576: true; the input reads as it did. -/
def fnOrbitsUptoRow : OpenClaim := { program := "ytgblehdamgliaaa", sum := "7ef7d3ac4495b93f85af59d5d15ae82349efbfdedf46fd7f416e34651ae13367", func := "loop.example/g01226/laws.FnOrbits", spec := "fnOrbits", inPlace := ["math.sqrt", "math.Float64bits", "math.Float64frombits", "math.Float32bits"], apart := false, narrowed := true }
def FnOrbitsUptoSaid : Prop := fnOrbitsUptoRow.holds Try.pinned (OpenSpec.upto fnOrbitsSpec)

/-- 'laws.FnMeetings', WHERE WHAT IT READS IS OF BULK AT MOST 1048576: true; the input reads as it did. -/
def fnMeetingsUptoRow : OpenClaim := { program := "ytgblehdamgliaaa", sum := "7ef7d3ac4495b93f85af59d5d15ae82349efbfdedf46fd7f416e34651ae13367", func := "loop.example/g01226/laws.FnMeetings", spec := "fnMeetings", inPlace := ["math.Float64frombits", "math.Float64bits", "math.archTrunc", "math.sqrt", "math.Float32bits"], unfollowed := true, recurses := true, apart := false, narrowed := true }
def FnMeetingsUptoSaid : Prop := fnMeetingsUptoRow.holds Try.pinned (OpenSpec.upto fnMeetingsSpec)

end Rows
end Go.Proofs.Ytgblehdamgliaaa
