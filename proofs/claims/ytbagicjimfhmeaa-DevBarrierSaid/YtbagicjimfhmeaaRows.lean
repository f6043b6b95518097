/-
  No cell of these rows narrows 'for every input' (looked for: loops, veiled, ifaces, maps, wideKeys, modest, calm, conditions, laid).
  DERIVED. THE GIVEN ROWS OF THIS SEAT. 9 by the template 'for every input the law returns true; each argument reads behind the call as it read before'; 0 by the template 'total and deterministic' (their statements: YtbagicjimfhmeaaTotals.lean).
  GIVEN WITH THE SEED: the statements are not yours to turn. If you find one false, say at which input.
  Laid BY PROGRAM, IN A SANDBOX (cutbox-rows.mjs): the forced cells as the released guide's own fill.sh prints them over the translation b7f4ac775fba3f0a… (all of the seat's roots in one cut). By AI agents, Wed Nov 11 2026. No macro, syntax, notation, axiom, sorry.
-/
import Derived.Test.YtbagicjimfhmeaaChecked
import GoSem.Claim
import GoSem.ClaimJoined
import GoSem.ClaimMapViews
import Derived.JoinedTies
import Derived.KernelRfl
namespace Go.Proofs.Ytbagicjimfhmeaa
/- THE CELL 'sum', in the pinned program and in every row, IS THE sha256 OF THE DUMP (.gsa) THAT YtbagicjimfhmeaaProg.lean LOADS. Nothing in Lean hashes anything: it is a label: what it is worth is what the hold of that sum in a sandbox is worth. -/
noncomputable def Try.pinned : Pinned := { name := "ytbagicjimfhmeaa", sum := "b7f4ac775fba3f0aabfb53b4964181b426799cbabecfbeb5379bef38a9f69110", checked := Try.checked }
namespace Rows
def none {H : Type} : Left H := { results := [], args := [] }

/-- 'clathrilaw4.DevBarrier': WHATEVER THE INPUT: true; the input reads as it did. -/
def devBarrierSpec : ChangeSpec := { name := "devBarrier", fn := fun _ => fun
  | [d1, d2] => { results := [.lit (.bool true)], args := [d1, d2] }
  | _ => none }
def devBarrierRow : OpenClaim := { program := "ytbagicjimfhmeaa", sum := "b7f4ac775fba3f0aabfb53b4964181b426799cbabecfbeb5379bef38a9f69110", func := "clathri/clathrilaw4.DevBarrier", spec := "devBarrier", apart := false }
def DevBarrierSaid : Prop := devBarrierRow.holds Try.pinned (OpenSpec.ofChange devBarrierSpec)

/-- ITS FALSE NEIGHBOUR: 'it returns false'. Refute it at one input. -/
def devBarrierWrong : ChangeSpec := { name := "devBarrier", fn := fun _ => fun
  | [d1, d2] => { results := [.lit (.bool false)], args := [d1, d2] }
  | _ => none }
def DevBarrierWrongFalsely : Prop := devBarrierRow.holds Try.pinned (OpenSpec.ofChange devBarrierWrong)

/-- 'clathrilaw4.DevKeeps': WHATEVER THE INPUT: true; the input reads as it did. -/
def devKeepsSpec : ChangeSpec := { name := "devKeeps", fn := fun _ => fun
  | [d1, d2] => { results := [.lit (.bool true)], args := [d1, d2] }
  | _ => none }
def devKeepsRow : OpenClaim := { program := "ytbagicjimfhmeaa", sum := "b7f4ac775fba3f0aabfb53b4964181b426799cbabecfbeb5379bef38a9f69110", func := "clathri/clathrilaw4.DevKeeps", spec := "devKeeps", apart := false }
def DevKeepsSaid : Prop := devKeepsRow.holds Try.pinned (OpenSpec.ofChange devKeepsSpec)

/-- ITS FALSE NEIGHBOUR: 'it returns false'. Refute it at one input. -/
def devKeepsWrong : ChangeSpec := { name := "devKeeps", fn := fun _ => fun
  | [d1, d2] => { results := [.lit (.bool false)], args := [d1, d2] }
  | _ => none }
def DevKeepsWrongFalsely : Prop := devKeepsRow.holds Try.pinned (OpenSpec.ofChange devKeepsWrong)

/-- 'clathrilaw4.DevTraces': WHATEVER THE INPUT: true; the input reads as it did. -/
def devTracesSpec : ChangeSpec := { name := "devTraces", fn := fun _ => fun
  | [d] => { results := [.lit (.bool true)], args := [d] }
  | _ => none }
def devTracesRow : OpenClaim := { program := "ytbagicjimfhmeaa", sum := "b7f4ac775fba3f0aabfb53b4964181b426799cbabecfbeb5379bef38a9f69110", func := "clathri/clathrilaw4.DevTraces", spec := "devTraces", apart := false }
def DevTracesSaid : Prop := devTracesRow.holds Try.pinned (OpenSpec.ofChange devTracesSpec)

/-- ITS FALSE NEIGHBOUR: 'it returns false'. Refute it at one input. -/
def devTracesWrong : ChangeSpec := { name := "devTraces", fn := fun _ => fun
  | [d] => { results := [.lit (.bool false)], args := [d] }
  | _ => none }
def DevTracesWrongFalsely : Prop := devTracesRow.holds Try.pinned (OpenSpec.ofChange devTracesWrong)

/-- 'clathrilaw4.DevCopies': WHATEVER THE INPUT: true; the input reads as it did. -/
def devCopiesSpec : ChangeSpec := { name := "devCopies", fn := fun _ => fun
  | [d1, d2, d3] => { results := [.lit (.bool true)], args := [d1, d2, d3] }
  | _ => none }
def devCopiesRow : OpenClaim := { program := "ytbagicjimfhmeaa", sum := "b7f4ac775fba3f0aabfb53b4964181b426799cbabecfbeb5379bef38a9f69110", func := "clathri/clathrilaw4.DevCopies", spec := "devCopies", apart := false }
def DevCopiesSaid : Prop := devCopiesRow.holds Try.pinned (OpenSpec.ofChange devCopiesSpec)

/-- ITS FALSE NEIGHBOUR: 'it returns false'. Refute it at one input. -/
def devCopiesWrong : ChangeSpec := { name := "devCopies", fn := fun _ => fun
  | [d1, d2, d3] => { results := [.lit (.bool false)], args := [d1, d2, d3] }
  | _ => none }
def DevCopiesWrongFalsely : Prop := devCopiesRow.holds Try.pinned (OpenSpec.ofChange devCopiesWrong)

/-- 'clathrilaw4.DevAll': WHATEVER THE INPUT: true; the input reads as it did. -/
def devAllSpec : ChangeSpec := { name := "devAll", fn := fun _ => fun
  | [d1, d2] => { results := [.lit (.bool true)], args := [d1, d2] }
  | _ => none }
def devAllRow : OpenClaim := { program := "ytbagicjimfhmeaa", sum := "b7f4ac775fba3f0aabfb53b4964181b426799cbabecfbeb5379bef38a9f69110", func := "clathri/clathrilaw4.DevAll", spec := "devAll", apart := false }
def DevAllSaid : Prop := devAllRow.holds Try.pinned (OpenSpec.ofChange devAllSpec)

/-- ITS FALSE NEIGHBOUR: 'it returns false'. Refute it at one input. -/
def devAllWrong : ChangeSpec := { name := "devAll", fn := fun _ => fun
  | [d1, d2] => { results := [.lit (.bool false)], args := [d1, d2] }
  | _ => none }
def DevAllWrongFalsely : Prop := devAllRow.holds Try.pinned (OpenSpec.ofChange devAllWrong)

/-- 'clathrilaw4.DevStops': WHATEVER THE INPUT: true; the input reads as it did. -/
def devStopsSpec : ChangeSpec := { name := "devStops", fn := fun _ => fun
  | [d1, d2] => { results := [.lit (.bool true)], args := [d1, d2] }
  | _ => none }
def devStopsRow : OpenClaim := { program := "ytbagicjimfhmeaa", sum := "b7f4ac775fba3f0aabfb53b4964181b426799cbabecfbeb5379bef38a9f69110", func := "clathri/clathrilaw4.DevStops", spec := "devStops", apart := false }
def DevStopsSaid : Prop := devStopsRow.holds Try.pinned (OpenSpec.ofChange devStopsSpec)

/-- ITS FALSE NEIGHBOUR: 'it returns false'. Refute it at one input. -/
def devStopsWrong : ChangeSpec := { name := "devStops", fn := fun _ => fun
  | [d1, d2] => { results := [.lit (.bool false)], args := [d1, d2] }
  | _ => none }
def DevStopsWrongFalsely : Prop := devStopsRow.holds Try.pinned (OpenSpec.ofChange devStopsWrong)

/-- 'clathrilaw4.DevNone': WHATEVER THE INPUT: true; the input reads as it did. -/
def devNoneSpec : ChangeSpec := { name := "devNone", fn := fun _ => fun
  | [d1, d2] => { results := [.lit (.bool true)], args := [d1, d2] }
  | _ => none }
def devNoneRow : OpenClaim := { program := "ytbagicjimfhmeaa", sum := "b7f4ac775fba3f0aabfb53b4964181b426799cbabecfbeb5379bef38a9f69110", func := "clathri/clathrilaw4.DevNone", spec := "devNone", apart := false }
def DevNoneSaid : Prop := devNoneRow.holds Try.pinned (OpenSpec.ofChange devNoneSpec)

/-- ITS FALSE NEIGHBOUR: 'it returns false'. Refute it at one input. -/
def devNoneWrong : ChangeSpec := { name := "devNone", fn := fun _ => fun
  | [d1, d2] => { results := [.lit (.bool false)], args := [d1, d2] }
  | _ => none }
def DevNoneWrongFalsely : Prop := devNoneRow.holds Try.pinned (OpenSpec.ofChange devNoneWrong)

/-- 'clathrilaw23.FdsAll': WHATEVER THE INPUT: true; the input reads as it did. -/
def fdsAllSpec : ChangeSpec := { name := "fdsAll", fn := fun _ => fun
  | [d] => { results := [.lit (.bool true)], args := [d] }
  | _ => none }
def fdsAllRow : OpenClaim := { program := "ytbagicjimfhmeaa", sum := "b7f4ac775fba3f0aabfb53b4964181b426799cbabecfbeb5379bef38a9f69110", func := "clathri/clathrilaw23.FdsAll", spec := "fdsAll", unfollowed := true, recurses := true, apart := false }
def FdsAllSaid : Prop := fdsAllRow.holds Try.pinned (OpenSpec.ofChange fdsAllSpec)

/-- ITS FALSE NEIGHBOUR: 'it returns false'. Refute it at one input. -/
def fdsAllWrong : ChangeSpec := { name := "fdsAll", fn := fun _ => fun
  | [d] => { results := [.lit (.bool false)], args := [d] }
  | _ => none }
def FdsAllWrongFalsely : Prop := fdsAllRow.holds Try.pinned (OpenSpec.ofChange fdsAllWrong)

/-- 'clathrilaw23.FdsFull': WHATEVER THE INPUT: true; the input reads as it did. -/
def fdsFullSpec : ChangeSpec := { name := "fdsFull", fn := fun _ => fun
  | [d1, d2] => { results := [.lit (.bool true)], args := [d1, d2] }
  | _ => none }
def fdsFullRow : OpenClaim := { program := "ytbagicjimfhmeaa", sum := "b7f4ac775fba3f0aabfb53b4964181b426799cbabecfbeb5379bef38a9f69110", func := "clathri/clathrilaw23.FdsFull", spec := "fdsFull", unfollowed := true, recurses := true, apart := false }
def FdsFullSaid : Prop := fdsFullRow.holds Try.pinned (OpenSpec.ofChange fdsFullSpec)

/-- ITS FALSE NEIGHBOUR: 'it returns false'. Refute it at one input. -/
def fdsFullWrong : ChangeSpec := { name := "fdsFull", fn := fun _ => fun
  | [d1, d2] => { results := [.lit (.bool false)], args := [d1, d2] }
  | _ => none }
def FdsFullWrongFalsely : Prop := fdsFullRow.holds Try.pinned (OpenSpec.ofChange fdsFullWrong)

/- THE SECOND FORM. 'bulk': how many values and letters a reading holds, each counted each time it is reached (what is shared counts as often as it is met; a slice's spare places count too). A statement '..UptoSaid' is the law's where the arguments, and the package variables that the reading takes, are together of bulk at most 1048576: NARROWER than '..Said'. Prove '..Said' where nothing that the law and all that it calls make is longer than what came in: it says more and counts as full. Else prove '..UptoSaid'. A law counts once. -/
mutual
def uptoBulk {H : Type} : DataW H → Nat
  | .lit (.string bytes) => bytes.length + 1
  | .lit _ => 1
  | .nil => 1
  | .ptr d => uptoBulk d + 1
  | .slice elems spare => uptoBulkAll elems + uptoBulkAll spare + 1
  | .agg parts => uptoBulkAll parts + 1
  | .iface _ d => uptoBulk d + 1
  | .map entries => uptoBulkEntries entries + 1
  | .held _ => 1
def uptoBulkAll {H : Type} : List (DataW H) → Nat
  | [] => 0
  | d :: r => uptoBulk d + uptoBulkAll r
def uptoBulkEntries {H : Type} : List (Lit × DataW H) → Nat
  | [] => 0
  | x :: r => uptoBulkEntry x + uptoBulkEntries r
def uptoBulkEntry {H : Type} : Lit × DataW H → Nat
  | (.string bytes, d) => bytes.length + uptoBulk d + 1
  | (_, d) => uptoBulk d + 1
 end
def uptoSmall : (H : Type) → List (DataW H) → Bool := fun _ ds => decide (uptoBulkAll ds ≤ 1048576)
def OpenSpec.upto (s : _root_.Go.ChangeSpec) : _root_.Go.OpenSpec := { _root_.Go.OpenSpec.ofChange s with cond := some uptoSmall }

/-- 'clathrilaw4.DevBarrier', WHERE WHAT IT READS IS OF BULK AT MOST 1048576: true; the input reads as it did. -/
def devBarrierUptoRow : OpenClaim := { program := "ytbagicjimfhmeaa", sum := "b7f4ac775fba3f0aabfb53b4964181b426799cbabecfbeb5379bef38a9f69110", func := "clathri/clathrilaw4.DevBarrier", spec := "devBarrier", apart := false, narrowed := true }
def DevBarrierUptoSaid : Prop := devBarrierUptoRow.holds Try.pinned (OpenSpec.upto devBarrierSpec)

/-- 'clathrilaw4.DevKeeps', WHERE WHAT IT READS IS OF BULK AT MOST 1048576: true; the input reads as it did. -/
def devKeepsUptoRow : OpenClaim := { program := "ytbagicjimfhmeaa", sum := "b7f4ac775fba3f0aabfb53b4964181b426799cbabecfbeb5379bef38a9f69110", func := "clathri/clathrilaw4.DevKeeps", spec := "devKeeps", apart := false, narrowed := true }
def DevKeepsUptoSaid : Prop := devKeepsUptoRow.holds Try.pinned (OpenSpec.upto devKeepsSpec)

/-- 'clathrilaw4.DevTraces', WHERE WHAT IT READS IS OF BULK AT MOST 1048576: true; the input reads as it did. -/
def devTracesUptoRow : OpenClaim := { program := "ytbagicjimfhmeaa", sum := "b7f4ac775fba3f0aabfb53b4964181b426799cbabecfbeb5379bef38a9f69110", func := "clathri/clathrilaw4.DevTraces", spec := "devTraces", apart := false, narrowed := true }
def DevTracesUptoSaid : Prop := devTracesUptoRow.holds Try.pinned (OpenSpec.upto devTracesSpec)

/-- 'clathrilaw4.DevCopies', WHERE WHAT IT READS IS OF BULK AT MOST 1048576: true; the input reads as it did. -/
def devCopiesUptoRow : OpenClaim := { program := "ytbagicjimfhmeaa", sum := "b7f4ac775fba3f0aabfb53b4964181b426799cbabecfbeb5379bef38a9f69110", func := "clathri/clathrilaw4.DevCopies", spec := "devCopies", apart := false, narrowed := true }
def DevCopiesUptoSaid : Prop := devCopiesUptoRow.holds Try.pinned (OpenSpec.upto devCopiesSpec)

/-- 'clathrilaw4.DevAll', WHERE WHAT IT READS IS OF BULK AT MOST 1048576: true; the input reads as it did. -/
def devAllUptoRow : OpenClaim := { program := "ytbagicjimfhmeaa", sum := "b7f4ac775fba3f0aabfb53b4964181b426799cbabecfbeb5379bef38a9f69110", func := "clathri/clathrilaw4.DevAll", spec := "devAll", apart := false, narrowed := true }
def DevAllUptoSaid : Prop := devAllUptoRow.holds Try.pinned (OpenSpec.upto devAllSpec)

/-- 'clathrilaw4.DevStops', WHERE WHAT IT READS IS OF BULK AT MOST 1048576: true; the input reads as it did. -/
def devStopsUptoRow : OpenClaim := { program := "ytbagicjimfhmeaa", sum := "b7f4ac775fba3f0aabfb53b4964181b426799cbabecfbeb5379bef38a9f69110", func := "clathri/clathrilaw4.DevStops", spec := "devStops", apart := false, narrowed := true }
def DevStopsUptoSaid : Prop := devStopsUptoRow.holds Try.pinned (OpenSpec.upto devStopsSpec)

/-- 'clathrilaw4.DevNone', WHERE WHAT IT READS IS OF BULK AT MOST 1048576: true; the input reads as it did. -/
def devNoneUptoRow : OpenClaim := { program := "ytbagicjimfhmeaa", sum := "b7f4ac775fba3f0aabfb53b4964181b426799cbabecfbeb5379bef38a9f69110", func := "clathri/clathrilaw4.DevNone", spec := "devNone", apart := false, narrowed := true }
def DevNoneUptoSaid : Prop := devNoneUptoRow.holds Try.pinned (OpenSpec.upto devNoneSpec)

/-- 'clathrilaw23.FdsAll', WHERE WHAT IT READS IS OF BULK AT MOST 1048576: true; the input reads as it did. -/
def fdsAllUptoRow : OpenClaim := { program := "ytbagicjimfhmeaa", sum := "b7f4ac775fba3f0aabfb53b4964181b426799cbabecfbeb5379bef38a9f69110", func := "clathri/clathrilaw23.FdsAll", spec := "fdsAll", unfollowed := true, recurses := true, apart := false, narrowed := true }
def FdsAllUptoSaid : Prop := fdsAllUptoRow.holds Try.pinned (OpenSpec.upto fdsAllSpec)

/-- 'clathrilaw23.FdsFull', WHERE WHAT IT READS IS OF BULK AT MOST 1048576: true; the input reads as it did. -/
def fdsFullUptoRow : OpenClaim := { program := "ytbagicjimfhmeaa", sum := "b7f4ac775fba3f0aabfb53b4964181b426799cbabecfbeb5379bef38a9f69110", func := "clathri/clathrilaw23.FdsFull", spec := "fdsFull", unfollowed := true, recurses := true, apart := false, narrowed := true }
def FdsFullUptoSaid : Prop := fdsFullUptoRow.holds Try.pinned (OpenSpec.upto fdsFullSpec)

end Rows
end Go.Proofs.Ytbagicjimfhmeaa
