/-
  No cell of these rows narrows 'for every input' (looked for: loops, veiled, ifaces, maps, wideKeys, modest, calm, conditions, laid).
  DERIVED. THE GIVEN ROWS OF THIS SEAT. 12 by the template 'for every input the law returns true; each argument reads behind the call as it read before'; 0 by the template 'total and deterministic' (their statements: YtibpipppabommaaTotals.lean).
  GIVEN WITH THE SEED: the statements are not yours to turn. If you find one false, say at which input.
  Laid BY PROGRAM, IN A SANDBOX (cutbox-rows.mjs): the forced cells as the released guide's own fill.sh prints them over the translation 812738adc6a9f349… (all of the seat's roots in one cut). By AI agents, Wed Nov 11 2026. No macro, syntax, notation, axiom, sorry.
-/
import Derived.Test.YtibpipppabommaaChecked
import GoSem.Claim
import GoSem.ClaimJoined
import GoSem.ClaimMapViews
import Derived.JoinedTies
import Derived.KernelRfl
namespace Go.Proofs.Ytibpipppabommaa
/- THE CELL 'sum', in the pinned program and in every row, IS THE sha256 OF THE DUMP (.gsa) THAT YtibpipppabommaaProg.lean LOADS. Nothing in Lean hashes anything: it is a label: what it is worth is what the hold of that sum in a sandbox is worth. -/
noncomputable def Try.pinned : Pinned := { name := "ytibpipppabommaa", sum := "812738adc6a9f34929075e31ce7a2f2d83611cd9da859b289a0eecf2ab55b04b", checked := Try.checked }
namespace Rows
def none {H : Type} : Left H := { results := [], args := [] }

/-- 'clathrilaw13.IndexAll': WHATEVER THE INPUT: true; the input reads as it did. -/
def indexAllSpec : ChangeSpec := { name := "indexAll", fn := fun _ => fun
  | [d1, d2, d3, d4, d5] => { results := [.lit (.bool true)], args := [d1, d2, d3, d4, d5] }
  | _ => none }
def indexAllRow : OpenClaim := { program := "ytibpipppabommaa", sum := "812738adc6a9f34929075e31ce7a2f2d83611cd9da859b289a0eecf2ab55b04b", func := "clathri/clathrilaw13.IndexAll", spec := "indexAll", apart := false }
def IndexAllSaid : Prop := indexAllRow.holds Try.pinned (OpenSpec.ofChange indexAllSpec)

/-- ITS FALSE NEIGHBOUR: 'it returns false'. Refute it at one input. -/
def indexAllWrong : ChangeSpec := { name := "indexAll", fn := fun _ => fun
  | [d1, d2, d3, d4, d5] => { results := [.lit (.bool false)], args := [d1, d2, d3, d4, d5] }
  | _ => none }
def IndexAllWrongFalsely : Prop := indexAllRow.holds Try.pinned (OpenSpec.ofChange indexAllWrong)

/-- 'clathrilaw13.IndexPieces': WHATEVER THE INPUT: true; the input reads as it did. -/
def indexPiecesSpec : ChangeSpec := { name := "indexPieces", fn := fun _ => fun
  | [d1, d2] => { results := [.lit (.bool true)], args := [d1, d2] }
  | _ => none }
def indexPiecesRow : OpenClaim := { program := "ytibpipppabommaa", sum := "812738adc6a9f34929075e31ce7a2f2d83611cd9da859b289a0eecf2ab55b04b", func := "clathri/clathrilaw13.IndexPieces", spec := "indexPieces", apart := false }
def IndexPiecesSaid : Prop := indexPiecesRow.holds Try.pinned (OpenSpec.ofChange indexPiecesSpec)

/-- ITS FALSE NEIGHBOUR: 'it returns false'. Refute it at one input. -/
def indexPiecesWrong : ChangeSpec := { name := "indexPieces", fn := fun _ => fun
  | [d1, d2] => { results := [.lit (.bool false)], args := [d1, d2] }
  | _ => none }
def IndexPiecesWrongFalsely : Prop := indexPiecesRow.holds Try.pinned (OpenSpec.ofChange indexPiecesWrong)

/-- 'clathrilaw13.IndexBack': WHATEVER THE INPUT: true; the input reads as it did. -/
def indexBackSpec : ChangeSpec := { name := "indexBack", fn := fun _ => fun
  | [d] => { results := [.lit (.bool true)], args := [d] }
  | _ => none }
def indexBackRow : OpenClaim := { program := "ytibpipppabommaa", sum := "812738adc6a9f34929075e31ce7a2f2d83611cd9da859b289a0eecf2ab55b04b", func := "clathri/clathrilaw13.IndexBack", spec := "indexBack", apart := false }
def IndexBackSaid : Prop := indexBackRow.holds Try.pinned (OpenSpec.ofChange indexBackSpec)

/-- ITS FALSE NEIGHBOUR: 'it returns false'. Refute it at one input. -/
def indexBackWrong : ChangeSpec := { name := "indexBack", fn := fun _ => fun
  | [d] => { results := [.lit (.bool false)], args := [d] }
  | _ => none }
def IndexBackWrongFalsely : Prop := indexBackRow.holds Try.pinned (OpenSpec.ofChange indexBackWrong)

/-- 'clathrilaw13.IndexForms': WHATEVER THE INPUT: true; the input reads as it did. -/
def indexFormsSpec : ChangeSpec := { name := "indexForms", fn := fun _ => fun
  | [] => { results := [.lit (.bool true)], args := [] }
  | _ => none }
def indexFormsRow : OpenClaim := { program := "ytibpipppabommaa", sum := "812738adc6a9f34929075e31ce7a2f2d83611cd9da859b289a0eecf2ab55b04b", func := "clathri/clathrilaw13.IndexForms", spec := "indexForms", apart := false }
def IndexFormsSaid : Prop := indexFormsRow.holds Try.pinned (OpenSpec.ofChange indexFormsSpec)

/-- ITS FALSE NEIGHBOUR: 'it returns false'. Refute it at one input. -/
def indexFormsWrong : ChangeSpec := { name := "indexForms", fn := fun _ => fun
  | [] => { results := [.lit (.bool false)], args := [] }
  | _ => none }
def IndexFormsWrongFalsely : Prop := indexFormsRow.holds Try.pinned (OpenSpec.ofChange indexFormsWrong)

/-- 'clathrilaw25.QueueAll': WHATEVER THE INPUT: true; the input reads as it did. -/
def queueAllSpec : ChangeSpec := { name := "queueAll", fn := fun _ => fun
  | [d1, d2] => { results := [.lit (.bool true)], args := [d1, d2] }
  | _ => none }
def queueAllRow : OpenClaim := { program := "ytibpipppabommaa", sum := "812738adc6a9f34929075e31ce7a2f2d83611cd9da859b289a0eecf2ab55b04b", func := "clathri/clathrilaw25.QueueAll", spec := "queueAll", unfollowed := true, recurses := true, apart := false }
def QueueAllSaid : Prop := queueAllRow.holds Try.pinned (OpenSpec.ofChange queueAllSpec)

/-- ITS FALSE NEIGHBOUR: 'it returns false'. Refute it at one input. -/
def queueAllWrong : ChangeSpec := { name := "queueAll", fn := fun _ => fun
  | [d1, d2] => { results := [.lit (.bool false)], args := [d1, d2] }
  | _ => none }
def QueueAllWrongFalsely : Prop := queueAllRow.holds Try.pinned (OpenSpec.ofChange queueAllWrong)

/-- 'clathrilaw25.QueueApart': WHATEVER THE INPUT: true; the input reads as it did. -/
def queueApartSpec : ChangeSpec := { name := "queueApart", fn := fun _ => fun
  | [d1, d2] => { results := [.lit (.bool true)], args := [d1, d2] }
  | _ => none }
def queueApartRow : OpenClaim := { program := "ytibpipppabommaa", sum := "812738adc6a9f34929075e31ce7a2f2d83611cd9da859b289a0eecf2ab55b04b", func := "clathri/clathrilaw25.QueueApart", spec := "queueApart", unfollowed := true, recurses := true, apart := false }
def QueueApartSaid : Prop := queueApartRow.holds Try.pinned (OpenSpec.ofChange queueApartSpec)

/-- ITS FALSE NEIGHBOUR: 'it returns false'. Refute it at one input. -/
def queueApartWrong : ChangeSpec := { name := "queueApart", fn := fun _ => fun
  | [d1, d2] => { results := [.lit (.bool false)], args := [d1, d2] }
  | _ => none }
def QueueApartWrongFalsely : Prop := queueApartRow.holds Try.pinned (OpenSpec.ofChange queueApartWrong)

/-- 'clathrilaw1.LabelAll': WHATEVER THE INPUT: true; the input reads as it did. -/
def labelAllSpec : ChangeSpec := { name := "labelAll", fn := fun _ => fun
  | [d1, d2, d3] => { results := [.lit (.bool true)], args := [d1, d2, d3] }
  | _ => none }
def labelAllRow : OpenClaim := { program := "ytibpipppabommaa", sum := "812738adc6a9f34929075e31ce7a2f2d83611cd9da859b289a0eecf2ab55b04b", func := "clathri/clathrilaw1.LabelAll", spec := "labelAll", unfollowed := true, recurses := true, apart := false }
def LabelAllSaid : Prop := labelAllRow.holds Try.pinned (OpenSpec.ofChange labelAllSpec)

/-- ITS FALSE NEIGHBOUR: 'it returns false'. Refute it at one input. -/
def labelAllWrong : ChangeSpec := { name := "labelAll", fn := fun _ => fun
  | [d1, d2, d3] => { results := [.lit (.bool false)], args := [d1, d2, d3] }
  | _ => none }
def LabelAllWrongFalsely : Prop := labelAllRow.holds Try.pinned (OpenSpec.ofChange labelAllWrong)

/-- 'clathrilaw1.LabelLattice': WHATEVER THE INPUT: true; the input reads as it did. -/
def labelLatticeSpec : ChangeSpec := { name := "labelLattice", fn := fun _ => fun
  | [d1, d2, d3] => { results := [.lit (.bool true)], args := [d1, d2, d3] }
  | _ => none }
def labelLatticeRow : OpenClaim := { program := "ytibpipppabommaa", sum := "812738adc6a9f34929075e31ce7a2f2d83611cd9da859b289a0eecf2ab55b04b", func := "clathri/clathrilaw1.LabelLattice", spec := "labelLattice", unfollowed := true, recurses := true, apart := false }
def LabelLatticeSaid : Prop := labelLatticeRow.holds Try.pinned (OpenSpec.ofChange labelLatticeSpec)

/-- ITS FALSE NEIGHBOUR: 'it returns false'. Refute it at one input. -/
def labelLatticeWrong : ChangeSpec := { name := "labelLattice", fn := fun _ => fun
  | [d1, d2, d3] => { results := [.lit (.bool false)], args := [d1, d2, d3] }
  | _ => none }
def LabelLatticeWrongFalsely : Prop := labelLatticeRow.holds Try.pinned (OpenSpec.ofChange labelLatticeWrong)

/-- 'clathrilaw1.LabelLine': WHATEVER THE INPUT: true; the input reads as it did. -/
def labelLineSpec : ChangeSpec := { name := "labelLine", fn := fun _ => fun
  | [d1, d2, d3] => { results := [.lit (.bool true)], args := [d1, d2, d3] }
  | _ => none }
def labelLineRow : OpenClaim := { program := "ytibpipppabommaa", sum := "812738adc6a9f34929075e31ce7a2f2d83611cd9da859b289a0eecf2ab55b04b", func := "clathri/clathrilaw1.LabelLine", spec := "labelLine", unfollowed := true, recurses := true, apart := false }
def LabelLineSaid : Prop := labelLineRow.holds Try.pinned (OpenSpec.ofChange labelLineSpec)

/-- ITS FALSE NEIGHBOUR: 'it returns false'. Refute it at one input. -/
def labelLineWrong : ChangeSpec := { name := "labelLine", fn := fun _ => fun
  | [d1, d2, d3] => { results := [.lit (.bool false)], args := [d1, d2, d3] }
  | _ => none }
def LabelLineWrongFalsely : Prop := labelLineRow.holds Try.pinned (OpenSpec.ofChange labelLineWrong)

/-- 'clathrilaw1.LabelBytes': WHATEVER THE INPUT: true; the input reads as it did. -/
def labelBytesSpec : ChangeSpec := { name := "labelBytes", fn := fun _ => fun
  | [d] => { results := [.lit (.bool true)], args := [d] }
  | _ => none }
def labelBytesRow : OpenClaim := { program := "ytibpipppabommaa", sum := "812738adc6a9f34929075e31ce7a2f2d83611cd9da859b289a0eecf2ab55b04b", func := "clathri/clathrilaw1.LabelBytes", spec := "labelBytes", unfollowed := true, recurses := true, apart := false }
def LabelBytesSaid : Prop := labelBytesRow.holds Try.pinned (OpenSpec.ofChange labelBytesSpec)

/-- ITS FALSE NEIGHBOUR: 'it returns false'. Refute it at one input. -/
def labelBytesWrong : ChangeSpec := { name := "labelBytes", fn := fun _ => fun
  | [d] => { results := [.lit (.bool false)], args := [d] }
  | _ => none }
def LabelBytesWrongFalsely : Prop := labelBytesRow.holds Try.pinned (OpenSpec.ofChange labelBytesWrong)

/-- 'clathrilaw1.LabelForms': WHATEVER THE INPUT: true; the input reads as it did. -/
def labelFormsSpec : ChangeSpec := { name := "labelForms", fn := fun _ => fun
  | [] => { results := [.lit (.bool true)], args := [] }
  | _ => none }
def labelFormsRow : OpenClaim := { program := "ytibpipppabommaa", sum := "812738adc6a9f34929075e31ce7a2f2d83611cd9da859b289a0eecf2ab55b04b", func := "clathri/clathrilaw1.LabelForms", spec := "labelForms", unfollowed := true, recurses := true, apart := false }
def LabelFormsSaid : Prop := labelFormsRow.holds Try.pinned (OpenSpec.ofChange labelFormsSpec)

/-- ITS FALSE NEIGHBOUR: 'it returns false'. Refute it at one input. -/
def labelFormsWrong : ChangeSpec := { name := "labelForms", fn := fun _ => fun
  | [] => { results := [.lit (.bool false)], args := [] }
  | _ => none }
def LabelFormsWrongFalsely : Prop := labelFormsRow.holds Try.pinned (OpenSpec.ofChange labelFormsWrong)

/-- 'clathrilaw1.LabelJoins': WHATEVER THE INPUT: true; the input reads as it did. -/
def labelJoinsSpec : ChangeSpec := { name := "labelJoins", fn := fun _ => fun
  | [d1, d2, d3] => { results := [.lit (.bool true)], args := [d1, d2, d3] }
  | _ => none }
def labelJoinsRow : OpenClaim := { program := "ytibpipppabommaa", sum := "812738adc6a9f34929075e31ce7a2f2d83611cd9da859b289a0eecf2ab55b04b", func := "clathri/clathrilaw1.LabelJoins", spec := "labelJoins", unfollowed := true, recurses := true, apart := false }
def LabelJoinsSaid : Prop := labelJoinsRow.holds Try.pinned (OpenSpec.ofChange labelJoinsSpec)

/-- ITS FALSE NEIGHBOUR: 'it returns false'. Refute it at one input. -/
def labelJoinsWrong : ChangeSpec := { name := "labelJoins", fn := fun _ => fun
  | [d1, d2, d3] => { results := [.lit (.bool false)], args := [d1, d2, d3] }
  | _ => none }
def LabelJoinsWrongFalsely : Prop := labelJoinsRow.holds Try.pinned (OpenSpec.ofChange labelJoinsWrong)

/- THE SECOND FORM. 'bulk': how many values and letters a reading holds, each counted each time it is reached (what is shared counts as often as it is met; a slice's spare places count too). A statement '..UptoSaid' is the law's where the arguments, and the package variables that the reading takes, are together of bulk at most 1048576: NARROWER than '..Said'. Prove '..Said' where nothing that the law and all that it calls make is longer than what came in: it says more and counts as full. Else prove '..UptoSaid'. A law counts once. -/
mutual
def uptoBulk {H : Type} : DataW H → Nat
  | .lit (.string bytes) => bytes.length + 1
  | .lit _ => 1
  | .nil => 1
  | .ptr d => uptoBulk d + 1
  | .slice elems spare => uptoBulkAll elems + uptoBulkAll spare + 1
  | .agg parts => uptoBulkAll parts + 1
  | .iface _ d => uptoBulk d + 1
  | .map entries => uptoBulkEntries entries + 1
  | .held _ => 1
def uptoBulkAll {H : Type} : List (DataW H) → Nat
  | [] => 0
  | d :: r => uptoBulk d + uptoBulkAll r
def uptoBulkEntries {H : Type} : List (Lit × DataW H) → Nat
  | [] => 0
  | x :: r => uptoBulkEntry x + uptoBulkEntries r
def uptoBulkEntry {H : Type} : Lit × DataW H → Nat
  | (.string bytes, d) => bytes.length + uptoBulk d + 1
  | (_, d) => uptoBulk d + 1
 end
def uptoSmall : (H : Type) → List (DataW H) → Bool := fun _ ds => decide (uptoBulkAll ds ≤ 1048576)
def OpenSpec.upto (s : _root_.Go.ChangeSpec) : _root_.Go.OpenSpec := { _root_.Go.OpenSpec.ofChange s with cond := some uptoSmall }

/-- 'clathrilaw13.IndexAll', WHERE WHAT IT READS IS OF BULK AT MOST 1048576: true; the input reads as it did. -/
def indexAllUptoRow : OpenClaim := { program := "ytibpipppabommaa", sum := "812738adc6a9f34929075e31ce7a2f2d83611cd9da859b289a0eecf2ab55b04b", func := "clathri/clathrilaw13.IndexAll", spec := "indexAll", apart := false, narrowed := true }
def IndexAllUptoSaid : Prop := indexAllUptoRow.holds Try.pinned (OpenSpec.upto indexAllSpec)

/-- 'clathrilaw13.IndexPieces', WHERE WHAT IT READS IS OF BULK AT MOST 1048576: true; the input reads as it did. -/
def indexPiecesUptoRow : OpenClaim := { program := "ytibpipppabommaa", sum := "812738adc6a9f34929075e31ce7a2f2d83611cd9da859b289a0eecf2ab55b04b", func := "clathri/clathrilaw13.IndexPieces", spec := "indexPieces", apart := false, narrowed := true }
def IndexPiecesUptoSaid : Prop := indexPiecesUptoRow.holds Try.pinned (OpenSpec.upto indexPiecesSpec)

/-- 'clathrilaw13.IndexBack', WHERE WHAT IT READS IS OF BULK AT MOST 1048576: true; the input reads as it did. -/
def indexBackUptoRow : OpenClaim := { program := "ytibpipppabommaa", sum := "812738adc6a9f34929075e31ce7a2f2d83611cd9da859b289a0eecf2ab55b04b", func := "clathri/clathrilaw13.IndexBack", spec := "indexBack", apart := false, narrowed := true }
def IndexBackUptoSaid : Prop := indexBackUptoRow.holds Try.pinned (OpenSpec.upto indexBackSpec)

/-- 'clathrilaw13.IndexForms', WHERE WHAT IT READS IS OF BULK AT MOST 1048576: true; the input reads as it did. -/
def indexFormsUptoRow : OpenClaim := { program := "ytibpipppabommaa", sum := "812738adc6a9f34929075e31ce7a2f2d83611cd9da859b289a0eecf2ab55b04b", func := "clathri/clathrilaw13.IndexForms", spec := "indexForms", apart := false, narrowed := true }
def IndexFormsUptoSaid : Prop := indexFormsUptoRow.holds Try.pinned (OpenSpec.upto indexFormsSpec)

/-- 'clathrilaw25.QueueAll', WHERE WHAT IT READS IS OF BULK AT MOST 1048576: true; the input reads as it did. -/
def queueAllUptoRow : OpenClaim := { program := "ytibpipppabommaa", sum := "812738adc6a9f34929075e31ce7a2f2d83611cd9da859b289a0eecf2ab55b04b", func := "clathri/clathrilaw25.QueueAll", spec := "queueAll", unfollowed := true, recurses := true, apart := false, narrowed := true }
def QueueAllUptoSaid : Prop := queueAllUptoRow.holds Try.pinned (OpenSpec.upto queueAllSpec)

/-- 'clathrilaw25.QueueApart', WHERE WHAT IT READS IS OF BULK AT MOST 1048576: true; the input reads as it did. -/
def queueApartUptoRow : OpenClaim := { program := "ytibpipppabommaa", sum := "812738adc6a9f34929075e31ce7a2f2d83611cd9da859b289a0eecf2ab55b04b", func := "clathri/clathrilaw25.QueueApart", spec := "queueApart", unfollowed := true, recurses := true, apart := false, narrowed := true }
def QueueApartUptoSaid : Prop := queueApartUptoRow.holds Try.pinned (OpenSpec.upto queueApartSpec)

/-- 'clathrilaw1.LabelAll', WHERE WHAT IT READS IS OF BULK AT MOST 1048576: true; the input reads as it did. -/
def labelAllUptoRow : OpenClaim := { program := "ytibpipppabommaa", sum := "812738adc6a9f34929075e31ce7a2f2d83611cd9da859b289a0eecf2ab55b04b", func := "clathri/clathrilaw1.LabelAll", spec := "labelAll", unfollowed := true, recurses := true, apart := false, narrowed := true }
def LabelAllUptoSaid : Prop := labelAllUptoRow.holds Try.pinned (OpenSpec.upto labelAllSpec)

/-- 'clathrilaw1.LabelLattice', WHERE WHAT IT READS IS OF BULK AT MOST 1048576: true; the input reads as it did. -/
def labelLatticeUptoRow : OpenClaim := { program := "ytibpipppabommaa", sum := "812738adc6a9f34929075e31ce7a2f2d83611cd9da859b289a0eecf2ab55b04b", func := "clathri/clathrilaw1.LabelLattice", spec := "labelLattice", unfollowed := true, recurses := true, apart := false, narrowed := true }
def LabelLatticeUptoSaid : Prop := labelLatticeUptoRow.holds Try.pinned (OpenSpec.upto labelLatticeSpec)

/-- 'clathrilaw1.LabelLine', WHERE WHAT IT READS IS OF BULK AT MOST 1048576: true; the input reads as it did. -/
def labelLineUptoRow : OpenClaim := { program := "ytibpipppabommaa", sum := "812738adc6a9f34929075e31ce7a2f2d83611cd9da859b289a0eecf2ab55b04b", func := "clathri/clathrilaw1.LabelLine", spec := "labelLine", unfollowed := true, recurses := true, apart := false, narrowed := true }
def LabelLineUptoSaid : Prop := labelLineUptoRow.holds Try.pinned (OpenSpec.upto labelLineSpec)

/-- 'clathrilaw1.LabelBytes', WHERE WHAT IT READS IS OF BULK AT MOST 1048576: true; the input reads as it did. -/
def labelBytesUptoRow : OpenClaim := { program := "ytibpipppabommaa", sum := "812738adc6a9f34929075e31ce7a2f2d83611cd9da859b289a0eecf2ab55b04b", func := "clathri/clathrilaw1.LabelBytes", spec := "labelBytes", unfollowed := true, recurses := true, apart := false, narrowed := true }
def LabelBytesUptoSaid : Prop := labelBytesUptoRow.holds Try.pinned (OpenSpec.upto labelBytesSpec)

/-- 'clathrilaw1.LabelForms', WHERE WHAT IT READS IS OF BULK AT MOST 1048576: true; the input reads as it did. -/
def labelFormsUptoRow : OpenClaim := { program := "ytibpipppabommaa", sum := "812738adc6a9f34929075e31ce7a2f2d83611cd9da859b289a0eecf2ab55b04b", func := "clathri/clathrilaw1.LabelForms", spec := "labelForms", unfollowed := true, recurses := true, apart := false, narrowed := true }
def LabelFormsUptoSaid : Prop := labelFormsUptoRow.holds Try.pinned (OpenSpec.upto labelFormsSpec)

/-- 'clathrilaw1.LabelJoins', WHERE WHAT IT READS IS OF BULK AT MOST 1048576: true; the input reads as it did. -/
def labelJoinsUptoRow : OpenClaim := { program := "ytibpipppabommaa", sum := "812738adc6a9f34929075e31ce7a2f2d83611cd9da859b289a0eecf2ab55b04b", func := "clathri/clathrilaw1.LabelJoins", spec := "labelJoins", unfollowed := true, recurses := true, apart := false, narrowed := true }
def LabelJoinsUptoSaid : Prop := labelJoinsUptoRow.holds Try.pinned (OpenSpec.upto labelJoinsSpec)

end Rows
end Go.Proofs.Ytibpipppabommaa
