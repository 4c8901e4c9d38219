/-
  No cell of these rows narrows 'for every input' (looked for: loops, veiled, ifaces, maps, wideKeys, modest, calm, conditions, laid).
  DERIVED. THE GIVEN ROWS OF THIS SEAT. 5 by the template 'for every input the law returns true; each argument reads behind the call as it read before'; 0 by the template 'total and deterministic' (their statements: YtgeiaafdholcbaaTotals.lean).
  GIVEN WITH THE SEED: the statements are not yours to turn. If you find one false, say at which input.
  Laid BY PROGRAM, IN A SANDBOX (cutbox-rows.mjs): the forced cells as the released guide's own fill.sh prints them over the translation ea326cb132af46c0… (all of the seat's roots in one cut). By AI agents, Wed Nov 11 2026. No macro, syntax, notation, axiom, sorry.
-/
import Derived.Test.YtgeiaafdholcbaaChecked
import GoSem.Claim
import GoSem.ClaimJoined
import GoSem.ClaimMapViews
import Derived.JoinedTies
import Derived.KernelRfl
namespace Go.Proofs.Ytgeiaafdholcbaa
/- THE CELL 'sum', in the pinned program and in every row, IS THE sha256 OF THE DUMP (.gsa) THAT YtgeiaafdholcbaaProg.lean LOADS. Nothing in Lean hashes anything: it is a label: what it is worth is what the hold of that sum in a sandbox is worth. -/
noncomputable def Try.pinned : Pinned := { name := "ytgeiaafdholcbaa", sum := "ea326cb132af46c0eca0e56786c32f5ee930cd041b94834f7d3a89e217b4cf5f", checked := Try.checked }
namespace Rows
def none {H : Type} : Left H := { results := [], args := [] }

/-- 'laws.FnRows': WHATEVER THE INPUT: true; the input reads as it did. -/
def fnRowsSpec : ChangeSpec := { name := "fnRows", fn := fun _ => fun
  | [d1, d2] => { results := [.lit (.bool true)], args := [d1, d2] }
  | _ => none }
def fnRowsRow : OpenClaim := { program := "ytgeiaafdholcbaa", sum := "ea326cb132af46c0eca0e56786c32f5ee930cd041b94834f7d3a89e217b4cf5f", func := "loop.example/g01226/laws.FnRows", spec := "fnRows", apart := false }
def FnRowsSaid : Prop := fnRowsRow.holds Try.pinned (OpenSpec.ofChange fnRowsSpec)

/-- ITS FALSE NEIGHBOUR: 'it returns false'. Refute it at one input. -/
def fnRowsWrong : ChangeSpec := { name := "fnRows", fn := fun _ => fun
  | [d1, d2] => { results := [.lit (.bool false)], args := [d1, d2] }
  | _ => none }
def FnRowsWrongFalsely : Prop := fnRowsRow.holds Try.pinned (OpenSpec.ofChange fnRowsWrong)

/-- 'laws.FnSolved': WHATEVER THE INPUT: true; the input reads as it did. -/
def fnSolvedSpec : ChangeSpec := { name := "fnSolved", fn := fun _ => fun
  | [d1, d2] => { results := [.lit (.bool true)], args := [d1, d2] }
  | _ => none }
def fnSolvedRow : OpenClaim := { program := "ytgeiaafdholcbaa", sum := "ea326cb132af46c0eca0e56786c32f5ee930cd041b94834f7d3a89e217b4cf5f", func := "loop.example/g01226/laws.FnSolved", spec := "fnSolved", inPlace := ["math.Float64bits", "math.Float64frombits", "math.Float32bits"], apart := false }
def FnSolvedSaid : Prop := fnSolvedRow.holds Try.pinned (OpenSpec.ofChange fnSolvedSpec)

/-- ITS FALSE NEIGHBOUR: 'it returns false'. Refute it at one input. -/
def fnSolvedWrong : ChangeSpec := { name := "fnSolved", fn := fun _ => fun
  | [d1, d2] => { results := [.lit (.bool false)], args := [d1, d2] }
  | _ => none }
def FnSolvedWrongFalsely : Prop := fnSolvedRow.holds Try.pinned (OpenSpec.ofChange fnSolvedWrong)

/-- 'laws.FnGrids': WHATEVER THE INPUT: true; the input reads as it did. -/
def fnGridsSpec : ChangeSpec := { name := "fnGrids", fn := fun _ => fun
  | [d1, d2] => { results := [.lit (.bool true)], args := [d1, d2] }
  | _ => none }
def fnGridsRow : OpenClaim := { program := "ytgeiaafdholcbaa", sum := "ea326cb132af46c0eca0e56786c32f5ee930cd041b94834f7d3a89e217b4cf5f", func := "loop.example/g01226/laws.FnGrids", spec := "fnGrids", inPlace := ["math.Float32bits", "math.Float64bits", "math.Float64frombits"], apart := false }
def FnGridsSaid : Prop := fnGridsRow.holds Try.pinned (OpenSpec.ofChange fnGridsSpec)

/-- ITS FALSE NEIGHBOUR: 'it returns false'. Refute it at one input. -/
def fnGridsWrong : ChangeSpec := { name := "fnGrids", fn := fun _ => fun
  | [d1, d2] => { results := [.lit (.bool false)], args := [d1, d2] }
  | _ => none }
def FnGridsWrongFalsely : Prop := fnGridsRow.holds Try.pinned (OpenSpec.ofChange fnGridsWrong)

/-- 'laws.FnTunes': WHATEVER THE INPUT: true; the input reads as it did. -/
def fnTunesSpec : ChangeSpec := { name := "fnTunes", fn := fun _ => fun
  | [d1, d2] => { results := [.lit (.bool true)], args := [d1, d2] }
  | _ => none }
def fnTunesRow : OpenClaim := { program := "ytgeiaafdholcbaa", sum := "ea326cb132af46c0eca0e56786c32f5ee930cd041b94834f7d3a89e217b4cf5f", func := "loop.example/g01226/laws.FnTunes", spec := "fnTunes", inPlace := ["math.Float64bits", "math.Float64frombits", "math.sqrt"], unfollowed := true, recurses := true, apart := false }
def FnTunesSaid : Prop := fnTunesRow.holds Try.pinned (OpenSpec.ofChange fnTunesSpec)

/-- ITS FALSE NEIGHBOUR: 'it returns false'. Refute it at one input. -/
def fnTunesWrong : ChangeSpec := { name := "fnTunes", fn := fun _ => fun
  | [d1, d2] => { results := [.lit (.bool false)], args := [d1, d2] }
  | _ => none }
def FnTunesWrongFalsely : Prop := fnTunesRow.holds Try.pinned (OpenSpec.ofChange fnTunesWrong)

/-- 'laws.FnSpectra': WHATEVER THE INPUT: true; the input reads as it did. -/
def fnSpectraSpec : ChangeSpec := { name := "fnSpectra", fn := fun _ => fun
  | [d1, d2] => { results := [.lit (.bool true)], args := [d1, d2] }
  | _ => none }
def fnSpectraRow : OpenClaim := { program := "ytgeiaafdholcbaa", sum := "ea326cb132af46c0eca0e56786c32f5ee930cd041b94834f7d3a89e217b4cf5f", func := "loop.example/g01226/laws.FnSpectra", spec := "fnSpectra", inPlace := ["math.Float64frombits", "math.Float64bits", "math.archTrunc"], unfollowed := true, recurses := true, apart := false }
def FnSpectraSaid : Prop := fnSpectraRow.holds Try.pinned (OpenSpec.ofChange fnSpectraSpec)

/-- ITS FALSE NEIGHBOUR: 'it returns false'. Refute it at one input. -/
def fnSpectraWrong : ChangeSpec := { name := "fnSpectra", fn := fun _ => fun
  | [d1, d2] => { results := [.lit (.bool false)], args := [d1, d2] }
  | _ => none }
def FnSpectraWrongFalsely : Prop := fnSpectraRow.holds Try.pinned (OpenSpec.ofChange fnSpectraWrong)

/- THE SECOND FORM. 'bulk': how many values and letters a reading holds, each counted each time it is reached (what is shared counts as often as it is met; a slice's spare places count too). A statement '..UptoSaid' is the law's where the arguments, and the package variables that the reading takes, are together of bulk at most 1048576: NARROWER than '..Said'. Prove '..Said' where nothing that the law and all that it calls make is longer than what came in: it says more and counts as full. Else prove '..UptoSaid'. A law counts once. -/
mutual
def uptoBulk {H : Type} : DataW H → Nat
  | .lit (.string bytes) => bytes.length + 1
  | .lit _ => 1
  | .nil => 1
  | .ptr d => uptoBulk d + 1
  | .slice elems spare => uptoBulkAll elems + uptoBulkAll spare + 1
  | .agg parts => uptoBulkAll parts + 1
  | .iface _ d => uptoBulk d + 1
  | .map entries => uptoBulkEntries entries + 1
  | .held _ => 1
def uptoBulkAll {H : Type} : List (DataW H) → Nat
  | [] => 0
  | d :: r => uptoBulk d + uptoBulkAll r
def uptoBulkEntries {H : Type} : List (Lit × DataW H) → Nat
  | [] => 0
  | x :: r => uptoBulkEntry x + uptoBulkEntries r
def uptoBulkEntry {H : Type} : Lit × DataW H → Nat
  | (.string bytes, d) => bytes.length + uptoBulk d + 1
  | (_, d) => uptoBulk d + 1
 end
def uptoSmall : (H : Type) → List (DataW H) → Bool := fun _ ds => decide (uptoBulkAll ds ≤ 1048576)
def OpenSpec.upto (s : _root_.Go.ChangeSpec) : _root_.Go.OpenSpec := { _root_.Go.OpenSpec.ofChange s with cond := some uptoSmall }

/-- 'laws.FnRows', WHERE WHAT IT READS IS OF BULK AT MOST 1048576: true; the input reads as it did. -/
def fnRowsUptoRow : OpenClaim := { program := "ytgeiaafdholcbaa", sum := "ea326cb132af46c0eca0e56786c32f5ee930cd041b94834f7d3a89e217b4cf5f", func := "loop.example/g01226/laws.FnRows", spec := "fnRows", apart := false, narrowed := true }
def FnRowsUptoSaid : Prop := fnRowsUptoRow.holds Try.pinned (OpenSpec.upto fnRowsSpec)

/-- 'laws.FnSolved', WHERE WHAT IT READS IS OF BULK AT MOST 1048576: true; the input reads as it did. -/
def fnSolvedUptoRow : OpenClaim := { program := "ytgeiaafdholcbaa", sum := "ea326cb132af46c0eca0e56786c32f5ee930cd041b94834f7d3a89e217b4cf5f", func := "loop.example/g01226/laws.FnSolved", spec := "fnSolved", inPlace := ["math.Float64bits", "math.Float64frombits", "math.Float32bits"], apart := false, narrowed := true }
def FnSolvedUptoSaid : Prop := fnSolvedUptoRow.holds Try.pinned (OpenSpec.upto fnSolvedSpec)

/-- 'laws.FnGrids', WHERE WHAT IT READS IS OF BULK AT MOST 1048576: true; the input reads as it did. -/
def fnGridsUptoRow : OpenClaim := { program := "ytgeiaafdholcbaa", sum := "ea326cb132af46c0eca0e56786c32f5ee930cd041b94834f7d3a89e217b4cf5f", func := "loop.example/g01226/laws.FnGrids", spec := "fnGrids", inPlace := ["math.Float32bits", "math.Float64bits", "math.Float64frombits"], apart := false, narrowed := true }
def FnGridsUptoSaid : Prop := fnGridsUptoRow.holds Try.pinned (OpenSpec.upto fnGridsSpec)

/-- 'laws.FnTunes', WHERE WHAT IT READS IS OF BULK AT MOST 1048576: true; the input reads as it did. -/
def fnTunesUptoRow : OpenClaim := { program := "ytgeiaafdholcbaa", sum := "ea326cb132af46c0eca0e56786c32f5ee930cd041b94834f7d3a89e217b4cf5f", func := "loop.example/g01226/laws.FnTunes", spec := "fnTunes", inPlace := ["math.Float64bits", "math.Float64frombits", "math.sqrt"], unfollowed := true, recurses := true, apart := false, narrowed := true }
def FnTunesUptoSaid : Prop := fnTunesUptoRow.holds Try.pinned (OpenSpec.upto fnTunesSpec)

/-- 'laws.FnSpectra', WHERE WHAT IT READS IS OF BULK AT MOST 1048576: true; the input reads as it did. -/
def fnSpectraUptoRow : OpenClaim := { program := "ytgeiaafdholcbaa", sum := "ea326cb132af46c0eca0e56786c32f5ee930cd041b94834f7d3a89e217b4cf5f", func := "loop.example/g01226/laws.FnSpectra", spec := "fnSpectra", inPlace := ["math.Float64frombits", "math.Float64bits", "math.archTrunc"], unfollowed := true, recurses := true, apart := false, narrowed := true }
def FnSpectraUptoSaid : Prop := fnSpectraUptoRow.holds Try.pinned (OpenSpec.upto fnSpectraSpec)

end Rows
end Go.Proofs.Ytgeiaafdholcbaa
