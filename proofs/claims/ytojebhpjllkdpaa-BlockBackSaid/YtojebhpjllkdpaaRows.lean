/-
  No cell of these rows narrows 'for every input' (looked for: loops, veiled, ifaces, maps, wideKeys, modest, calm, conditions, laid).
  DERIVED. THE GIVEN ROWS OF THIS SEAT. 12 by the template 'for every input the law returns true; each argument reads behind the call as it read before'; 0 by the template 'total and deterministic' (their statements: YtojebhpjllkdpaaTotals.lean).
  GIVEN WITH THE SEED: the statements are not yours to turn. If you find one false, say at which input.
  Laid BY PROGRAM, IN A SANDBOX (cutbox-rows.mjs): the forced cells as the released guide's own fill.sh prints them over the translation a18d1193d24d42ed… (all of the seat's roots in one cut). By AI agents, Wed Nov 11 2026. No macro, syntax, notation, axiom, sorry.
-/
import Derived.Test.YtojebhpjllkdpaaChecked
import GoSem.Claim
import GoSem.ClaimJoined
import GoSem.ClaimMapViews
import Derived.JoinedTies
import Derived.KernelRfl
namespace Go.Proofs.Ytojebhpjllkdpaa
/- THE CELL 'sum', in the pinned program and in every row, IS THE sha256 OF THE DUMP (.gsa) THAT YtojebhpjllkdpaaProg.lean LOADS. Nothing in Lean hashes anything: it is a label: what it is worth is what the hold of that sum in a sandbox is worth. -/
noncomputable def Try.pinned : Pinned := { name := "ytojebhpjllkdpaa", sum := "a18d1193d24d42ed4050754e802fac931380ce9d52da5f966c0281f3c74c7d1e", checked := Try.checked }
namespace Rows
def none {H : Type} : Left H := { results := [], args := [] }

/-- 'clathrilaw3.SumAll': WHATEVER THE INPUT: true; the input reads as it did. -/
def sumAllSpec : ChangeSpec := { name := "sumAll", fn := fun _ => fun
  | [d] => { results := [.lit (.bool true)], args := [d] }
  | _ => none }
def sumAllRow : OpenClaim := { program := "ytojebhpjllkdpaa", sum := "a18d1193d24d42ed4050754e802fac931380ce9d52da5f966c0281f3c74c7d1e", func := "clathri/clathrilaw3.SumAll", spec := "sumAll", apart := false }
def SumAllSaid : Prop := sumAllRow.holds Try.pinned (OpenSpec.ofChange sumAllSpec)

/-- ITS FALSE NEIGHBOUR: 'it returns false'. Refute it at one input. -/
def sumAllWrong : ChangeSpec := { name := "sumAll", fn := fun _ => fun
  | [d] => { results := [.lit (.bool false)], args := [d] }
  | _ => none }
def SumAllWrongFalsely : Prop := sumAllRow.holds Try.pinned (OpenSpec.ofChange sumAllWrong)

/-- 'clathrilaw3.SumTurned': WHATEVER THE INPUT: true; the input reads as it did. -/
def sumTurnedSpec : ChangeSpec := { name := "sumTurned", fn := fun _ => fun
  | [d1, d2, d3] => { results := [.lit (.bool true)], args := [d1, d2, d3] }
  | _ => none }
def sumTurnedRow : OpenClaim := { program := "ytojebhpjllkdpaa", sum := "a18d1193d24d42ed4050754e802fac931380ce9d52da5f966c0281f3c74c7d1e", func := "clathri/clathrilaw3.SumTurned", spec := "sumTurned", apart := false }
def SumTurnedSaid : Prop := sumTurnedRow.holds Try.pinned (OpenSpec.ofChange sumTurnedSpec)

/-- ITS FALSE NEIGHBOUR: 'it returns false'. Refute it at one input. -/
def sumTurnedWrong : ChangeSpec := { name := "sumTurned", fn := fun _ => fun
  | [d1, d2, d3] => { results := [.lit (.bool false)], args := [d1, d2, d3] }
  | _ => none }
def SumTurnedWrongFalsely : Prop := sumTurnedRow.holds Try.pinned (OpenSpec.ofChange sumTurnedWrong)

/-- 'clathrilaw3.SumForms': WHATEVER THE INPUT: true; the input reads as it did. -/
def sumFormsSpec : ChangeSpec := { name := "sumForms", fn := fun _ => fun
  | [] => { results := [.lit (.bool true)], args := [] }
  | _ => none }
def sumFormsRow : OpenClaim := { program := "ytojebhpjllkdpaa", sum := "a18d1193d24d42ed4050754e802fac931380ce9d52da5f966c0281f3c74c7d1e", func := "clathri/clathrilaw3.SumForms", spec := "sumForms", apart := false }
def SumFormsSaid : Prop := sumFormsRow.holds Try.pinned (OpenSpec.ofChange sumFormsSpec)

/-- ITS FALSE NEIGHBOUR: 'it returns false'. Refute it at one input. -/
def sumFormsWrong : ChangeSpec := { name := "sumForms", fn := fun _ => fun
  | [] => { results := [.lit (.bool false)], args := [] }
  | _ => none }
def SumFormsWrongFalsely : Prop := sumFormsRow.holds Try.pinned (OpenSpec.ofChange sumFormsWrong)

/-- 'clathrilaw3.SumSwapped': WHATEVER THE INPUT: true; the input reads as it did. -/
def sumSwappedSpec : ChangeSpec := { name := "sumSwapped", fn := fun _ => fun
  | [d1, d2] => { results := [.lit (.bool true)], args := [d1, d2] }
  | _ => none }
def sumSwappedRow : OpenClaim := { program := "ytojebhpjllkdpaa", sum := "a18d1193d24d42ed4050754e802fac931380ce9d52da5f966c0281f3c74c7d1e", func := "clathri/clathrilaw3.SumSwapped", spec := "sumSwapped", apart := false }
def SumSwappedSaid : Prop := sumSwappedRow.holds Try.pinned (OpenSpec.ofChange sumSwappedSpec)

/-- ITS FALSE NEIGHBOUR: 'it returns false'. Refute it at one input. -/
def sumSwappedWrong : ChangeSpec := { name := "sumSwapped", fn := fun _ => fun
  | [d1, d2] => { results := [.lit (.bool false)], args := [d1, d2] }
  | _ => none }
def SumSwappedWrongFalsely : Prop := sumSwappedRow.holds Try.pinned (OpenSpec.ofChange sumSwappedWrong)

/-- 'clathrilaw11.InoAll': WHATEVER THE INPUT: true; the input reads as it did. -/
def inoAllSpec : ChangeSpec := { name := "inoAll", fn := fun _ => fun
  | [d1, d2] => { results := [.lit (.bool true)], args := [d1, d2] }
  | _ => none }
def inoAllRow : OpenClaim := { program := "ytojebhpjllkdpaa", sum := "a18d1193d24d42ed4050754e802fac931380ce9d52da5f966c0281f3c74c7d1e", func := "clathri/clathrilaw11.InoAll", spec := "inoAll", apart := false }
def InoAllSaid : Prop := inoAllRow.holds Try.pinned (OpenSpec.ofChange inoAllSpec)

/-- ITS FALSE NEIGHBOUR: 'it returns false'. Refute it at one input. -/
def inoAllWrong : ChangeSpec := { name := "inoAll", fn := fun _ => fun
  | [d1, d2] => { results := [.lit (.bool false)], args := [d1, d2] }
  | _ => none }
def InoAllWrongFalsely : Prop := inoAllRow.holds Try.pinned (OpenSpec.ofChange inoAllWrong)

/-- 'clathrilaw11.InoBack': WHATEVER THE INPUT: true; the input reads as it did. -/
def inoBackSpec : ChangeSpec := { name := "inoBack", fn := fun _ => fun
  | [d1, d2, d3, d4] => { results := [.lit (.bool true)], args := [d1, d2, d3, d4] }
  | _ => none }
def inoBackRow : OpenClaim := { program := "ytojebhpjllkdpaa", sum := "a18d1193d24d42ed4050754e802fac931380ce9d52da5f966c0281f3c74c7d1e", func := "clathri/clathrilaw11.InoBack", spec := "inoBack", apart := false }
def InoBackSaid : Prop := inoBackRow.holds Try.pinned (OpenSpec.ofChange inoBackSpec)

/-- ITS FALSE NEIGHBOUR: 'it returns false'. Refute it at one input. -/
def inoBackWrong : ChangeSpec := { name := "inoBack", fn := fun _ => fun
  | [d1, d2, d3, d4] => { results := [.lit (.bool false)], args := [d1, d2, d3, d4] }
  | _ => none }
def InoBackWrongFalsely : Prop := inoBackRow.holds Try.pinned (OpenSpec.ofChange inoBackWrong)

/-- 'clathrilaw11.InoForms': WHATEVER THE INPUT: true; the input reads as it did. -/
def inoFormsSpec : ChangeSpec := { name := "inoForms", fn := fun _ => fun
  | [] => { results := [.lit (.bool true)], args := [] }
  | _ => none }
def inoFormsRow : OpenClaim := { program := "ytojebhpjllkdpaa", sum := "a18d1193d24d42ed4050754e802fac931380ce9d52da5f966c0281f3c74c7d1e", func := "clathri/clathrilaw11.InoForms", spec := "inoForms", apart := false }
def InoFormsSaid : Prop := inoFormsRow.holds Try.pinned (OpenSpec.ofChange inoFormsSpec)

/-- ITS FALSE NEIGHBOUR: 'it returns false'. Refute it at one input. -/
def inoFormsWrong : ChangeSpec := { name := "inoForms", fn := fun _ => fun
  | [] => { results := [.lit (.bool false)], args := [] }
  | _ => none }
def InoFormsWrongFalsely : Prop := inoFormsRow.holds Try.pinned (OpenSpec.ofChange inoFormsWrong)

/-- 'clathrilaw5.AreaAll': WHATEVER THE INPUT: true; the input reads as it did. -/
def areaAllSpec : ChangeSpec := { name := "areaAll", fn := fun _ => fun
  | [d1, d2] => { results := [.lit (.bool true)], args := [d1, d2] }
  | _ => none }
def areaAllRow : OpenClaim := { program := "ytojebhpjllkdpaa", sum := "a18d1193d24d42ed4050754e802fac931380ce9d52da5f966c0281f3c74c7d1e", func := "clathri/clathrilaw5.AreaAll", spec := "areaAll", unfollowed := true, recurses := true, apart := false }
def AreaAllSaid : Prop := areaAllRow.holds Try.pinned (OpenSpec.ofChange areaAllSpec)

/-- ITS FALSE NEIGHBOUR: 'it returns false'. Refute it at one input. -/
def areaAllWrong : ChangeSpec := { name := "areaAll", fn := fun _ => fun
  | [d1, d2] => { results := [.lit (.bool false)], args := [d1, d2] }
  | _ => none }
def AreaAllWrongFalsely : Prop := areaAllRow.holds Try.pinned (OpenSpec.ofChange areaAllWrong)

/-- 'clathrilaw5.AreaForms': WHATEVER THE INPUT: true; the input reads as it did. -/
def areaFormsSpec : ChangeSpec := { name := "areaForms", fn := fun _ => fun
  | [] => { results := [.lit (.bool true)], args := [] }
  | _ => none }
def areaFormsRow : OpenClaim := { program := "ytojebhpjllkdpaa", sum := "a18d1193d24d42ed4050754e802fac931380ce9d52da5f966c0281f3c74c7d1e", func := "clathri/clathrilaw5.AreaForms", spec := "areaForms", unfollowed := true, recurses := true, apart := false }
def AreaFormsSaid : Prop := areaFormsRow.holds Try.pinned (OpenSpec.ofChange areaFormsSpec)

/-- ITS FALSE NEIGHBOUR: 'it returns false'. Refute it at one input. -/
def areaFormsWrong : ChangeSpec := { name := "areaForms", fn := fun _ => fun
  | [] => { results := [.lit (.bool false)], args := [] }
  | _ => none }
def AreaFormsWrongFalsely : Prop := areaFormsRow.holds Try.pinned (OpenSpec.ofChange areaFormsWrong)

/-- 'clathrilaw6.BlockAll': WHATEVER THE INPUT: true; the input reads as it did. -/
def blockAllSpec : ChangeSpec := { name := "blockAll", fn := fun _ => fun
  | [d1, d2, d3, d4] => { results := [.lit (.bool true)], args := [d1, d2, d3, d4] }
  | _ => none }
def blockAllRow : OpenClaim := { program := "ytojebhpjllkdpaa", sum := "a18d1193d24d42ed4050754e802fac931380ce9d52da5f966c0281f3c74c7d1e", func := "clathri/clathrilaw6.BlockAll", spec := "blockAll", apart := false }
def BlockAllSaid : Prop := blockAllRow.holds Try.pinned (OpenSpec.ofChange blockAllSpec)

/-- ITS FALSE NEIGHBOUR: 'it returns false'. Refute it at one input. -/
def blockAllWrong : ChangeSpec := { name := "blockAll", fn := fun _ => fun
  | [d1, d2, d3, d4] => { results := [.lit (.bool false)], args := [d1, d2, d3, d4] }
  | _ => none }
def BlockAllWrongFalsely : Prop := blockAllRow.holds Try.pinned (OpenSpec.ofChange blockAllWrong)

/-- 'clathrilaw6.BlockBack': WHATEVER THE INPUT: true; the input reads as it did. -/
def blockBackSpec : ChangeSpec := { name := "blockBack", fn := fun _ => fun
  | [d1, d2, d3, d4, d5, d6, d7, d8] => { results := [.lit (.bool true)], args := [d1, d2, d3, d4, d5, d6, d7, d8] }
  | _ => none }
def blockBackRow : OpenClaim := { program := "ytojebhpjllkdpaa", sum := "a18d1193d24d42ed4050754e802fac931380ce9d52da5f966c0281f3c74c7d1e", func := "clathri/clathrilaw6.BlockBack", spec := "blockBack", apart := false }
def BlockBackSaid : Prop := blockBackRow.holds Try.pinned (OpenSpec.ofChange blockBackSpec)

/-- ITS FALSE NEIGHBOUR: 'it returns false'. Refute it at one input. -/
def blockBackWrong : ChangeSpec := { name := "blockBack", fn := fun _ => fun
  | [d1, d2, d3, d4, d5, d6, d7, d8] => { results := [.lit (.bool false)], args := [d1, d2, d3, d4, d5, d6, d7, d8] }
  | _ => none }
def BlockBackWrongFalsely : Prop := blockBackRow.holds Try.pinned (OpenSpec.ofChange blockBackWrong)

/-- 'clathrilaw6.BlockForms': WHATEVER THE INPUT: true; the input reads as it did. -/
def blockFormsSpec : ChangeSpec := { name := "blockForms", fn := fun _ => fun
  | [] => { results := [.lit (.bool true)], args := [] }
  | _ => none }
def blockFormsRow : OpenClaim := { program := "ytojebhpjllkdpaa", sum := "a18d1193d24d42ed4050754e802fac931380ce9d52da5f966c0281f3c74c7d1e", func := "clathri/clathrilaw6.BlockForms", spec := "blockForms", apart := false }
def BlockFormsSaid : Prop := blockFormsRow.holds Try.pinned (OpenSpec.ofChange blockFormsSpec)

/-- ITS FALSE NEIGHBOUR: 'it returns false'. Refute it at one input. -/
def blockFormsWrong : ChangeSpec := { name := "blockForms", fn := fun _ => fun
  | [] => { results := [.lit (.bool false)], args := [] }
  | _ => none }
def BlockFormsWrongFalsely : Prop := blockFormsRow.holds Try.pinned (OpenSpec.ofChange blockFormsWrong)

/- THE SECOND FORM. 'bulk': how many values and letters a reading holds, each counted each time it is reached (what is shared counts as often as it is met; a slice's spare places count too). A statement '..UptoSaid' is the law's where the arguments, and the package variables that the reading takes, are together of bulk at most 1048576: NARROWER than '..Said'. Prove '..Said' where nothing that the law and all that it calls make is longer than what came in: it says more and counts as full. Else prove '..UptoSaid'. A law counts once. -/
mutual
def uptoBulk {H : Type} : DataW H → Nat
  | .lit (.string bytes) => bytes.length + 1
  | .lit _ => 1
  | .nil => 1
  | .ptr d => uptoBulk d + 1
  | .slice elems spare => uptoBulkAll elems + uptoBulkAll spare + 1
  | .agg parts => uptoBulkAll parts + 1
  | .iface _ d => uptoBulk d + 1
  | .map entries => uptoBulkEntries entries + 1
  | .held _ => 1
def uptoBulkAll {H : Type} : List (DataW H) → Nat
  | [] => 0
  | d :: r => uptoBulk d + uptoBulkAll r
def uptoBulkEntries {H : Type} : List (Lit × DataW H) → Nat
  | [] => 0
  | x :: r => uptoBulkEntry x + uptoBulkEntries r
def uptoBulkEntry {H : Type} : Lit × DataW H → Nat
  | (.string bytes, d) => bytes.length + uptoBulk d + 1
  | (_, d) => uptoBulk d + 1
 end
def uptoSmall : (H : Type) → List (DataW H) → Bool := fun _ ds => decide (uptoBulkAll ds ≤ 1048576)
def OpenSpec.upto (s : _root_.Go.ChangeSpec) : _root_.Go.OpenSpec := { _root_.Go.OpenSpec.ofChange s with cond := some uptoSmall }

/-- 'clathrilaw3.SumAll', WHERE WHAT IT READS IS OF BULK AT MOST 1048576: true; the input reads as it did. -/
def sumAllUptoRow : OpenClaim := { program := "ytojebhpjllkdpaa", sum := "a18d1193d24d42ed4050754e802fac931380ce9d52da5f966c0281f3c74c7d1e", func := "clathri/clathrilaw3.SumAll", spec := "sumAll", apart := false, narrowed := true }
def SumAllUptoSaid : Prop := sumAllUptoRow.holds Try.pinned (OpenSpec.upto sumAllSpec)

/-- 'clathrilaw3.SumTurned', WHERE WHAT IT READS IS OF BULK AT MOST 1048576: true; the input reads as it did. -/
def sumTurnedUptoRow : OpenClaim := { program := "ytojebhpjllkdpaa", sum := "a18d1193d24d42ed4050754e802fac931380ce9d52da5f966c0281f3c74c7d1e", func := "clathri/clathrilaw3.SumTurned", spec := "sumTurned", apart := false, narrowed := true }
def SumTurnedUptoSaid : Prop := sumTurnedUptoRow.holds Try.pinned (OpenSpec.upto sumTurnedSpec)

/-- 'clathrilaw3.SumForms', WHERE WHAT IT READS IS OF BULK AT MOST 1048576: true; the input reads as it did. -/
def sumFormsUptoRow : OpenClaim := { program := "ytojebhpjllkdpaa", sum := "a18d1193d24d42ed4050754e802fac931380ce9d52da5f966c0281f3c74c7d1e", func := "clathri/clathrilaw3.SumForms", spec := "sumForms", apart := false, narrowed := true }
def SumFormsUptoSaid : Prop := sumFormsUptoRow.holds Try.pinned (OpenSpec.upto sumFormsSpec)

/-- 'clathrilaw3.SumSwapped', WHERE WHAT IT READS IS OF BULK AT MOST 1048576: true; the input reads as it did. -/
def sumSwappedUptoRow : OpenClaim := { program := "ytojebhpjllkdpaa", sum := "a18d1193d24d42ed4050754e802fac931380ce9d52da5f966c0281f3c74c7d1e", func := "clathri/clathrilaw3.SumSwapped", spec := "sumSwapped", apart := false, narrowed := true }
def SumSwappedUptoSaid : Prop := sumSwappedUptoRow.holds Try.pinned (OpenSpec.upto sumSwappedSpec)

/-- 'clathrilaw11.InoAll', WHERE WHAT IT READS IS OF BULK AT MOST 1048576: true; the input reads as it did. -/
def inoAllUptoRow : OpenClaim := { program := "ytojebhpjllkdpaa", sum := "a18d1193d24d42ed4050754e802fac931380ce9d52da5f966c0281f3c74c7d1e", func := "clathri/clathrilaw11.InoAll", spec := "inoAll", apart := false, narrowed := true }
def InoAllUptoSaid : Prop := inoAllUptoRow.holds Try.pinned (OpenSpec.upto inoAllSpec)

/-- 'clathrilaw11.InoBack', WHERE WHAT IT READS IS OF BULK AT MOST 1048576: true; the input reads as it did. -/
def inoBackUptoRow : OpenClaim := { program := "ytojebhpjllkdpaa", sum := "a18d1193d24d42ed4050754e802fac931380ce9d52da5f966c0281f3c74c7d1e", func := "clathri/clathrilaw11.InoBack", spec := "inoBack", apart := false, narrowed := true }
def InoBackUptoSaid : Prop := inoBackUptoRow.holds Try.pinned (OpenSpec.upto inoBackSpec)

/-- 'clathrilaw11.InoForms', WHERE WHAT IT READS IS OF BULK AT MOST 1048576: true; the input reads as it did. -/
def inoFormsUptoRow : OpenClaim := { program := "ytojebhpjllkdpaa", sum := "a18d1193d24d42ed4050754e802fac931380ce9d52da5f966c0281f3c74c7d1e", func := "clathri/clathrilaw11.InoForms", spec := "inoForms", apart := false, narrowed := true }
def InoFormsUptoSaid : Prop := inoFormsUptoRow.holds Try.pinned (OpenSpec.upto inoFormsSpec)

/-- 'clathrilaw5.AreaAll', WHERE WHAT IT READS IS OF BULK AT MOST 1048576: true; the input reads as it did. -/
def areaAllUptoRow : OpenClaim := { program := "ytojebhpjllkdpaa", sum := "a18d1193d24d42ed4050754e802fac931380ce9d52da5f966c0281f3c74c7d1e", func := "clathri/clathrilaw5.AreaAll", spec := "areaAll", unfollowed := true, recurses := true, apart := false, narrowed := true }
def AreaAllUptoSaid : Prop := areaAllUptoRow.holds Try.pinned (OpenSpec.upto areaAllSpec)

/-- 'clathrilaw5.AreaForms', WHERE WHAT IT READS IS OF BULK AT MOST 1048576: true; the input reads as it did. -/
def areaFormsUptoRow : OpenClaim := { program := "ytojebhpjllkdpaa", sum := "a18d1193d24d42ed4050754e802fac931380ce9d52da5f966c0281f3c74c7d1e", func := "clathri/clathrilaw5.AreaForms", spec := "areaForms", unfollowed := true, recurses := true, apart := false, narrowed := true }
def AreaFormsUptoSaid : Prop := areaFormsUptoRow.holds Try.pinned (OpenSpec.upto areaFormsSpec)

/-- 'clathrilaw6.BlockAll', WHERE WHAT IT READS IS OF BULK AT MOST 1048576: true; the input reads as it did. -/
def blockAllUptoRow : OpenClaim := { program := "ytojebhpjllkdpaa", sum := "a18d1193d24d42ed4050754e802fac931380ce9d52da5f966c0281f3c74c7d1e", func := "clathri/clathrilaw6.BlockAll", spec := "blockAll", apart := false, narrowed := true }
def BlockAllUptoSaid : Prop := blockAllUptoRow.holds Try.pinned (OpenSpec.upto blockAllSpec)

/-- 'clathrilaw6.BlockBack', WHERE WHAT IT READS IS OF BULK AT MOST 1048576: true; the input reads as it did. -/
def blockBackUptoRow : OpenClaim := { program := "ytojebhpjllkdpaa", sum := "a18d1193d24d42ed4050754e802fac931380ce9d52da5f966c0281f3c74c7d1e", func := "clathri/clathrilaw6.BlockBack", spec := "blockBack", apart := false, narrowed := true }
def BlockBackUptoSaid : Prop := blockBackUptoRow.holds Try.pinned (OpenSpec.upto blockBackSpec)

/-- 'clathrilaw6.BlockForms', WHERE WHAT IT READS IS OF BULK AT MOST 1048576: true; the input reads as it did. -/
def blockFormsUptoRow : OpenClaim := { program := "ytojebhpjllkdpaa", sum := "a18d1193d24d42ed4050754e802fac931380ce9d52da5f966c0281f3c74c7d1e", func := "clathri/clathrilaw6.BlockForms", spec := "blockForms", apart := false, narrowed := true }
def BlockFormsUptoSaid : Prop := blockFormsUptoRow.holds Try.pinned (OpenSpec.upto blockFormsSpec)

end Rows
end Go.Proofs.Ytojebhpjllkdpaa
