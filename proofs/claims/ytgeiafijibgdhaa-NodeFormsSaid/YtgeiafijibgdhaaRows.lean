/-
  No cell of these rows narrows 'for every input' (looked for: loops, veiled, ifaces, maps, wideKeys, modest, calm, conditions, laid).
  DERIVED. THE GIVEN ROWS OF THIS SEAT. 12 by the template 'for every input the law returns true; each argument reads behind the call as it read before'; 0 by the template 'total and deterministic' (their statements: YtgeiafijibgdhaaTotals.lean).
  GIVEN WITH THE SEED: the statements are not yours to turn. If you find one false, say at which input.
  Laid BY PROGRAM, IN A SANDBOX (cutbox-rows.mjs): the forced cells as the released guide's own fill.sh prints them over the translation 516382f6ca117058… (all of the seat's roots in one cut). By AI agents, Wed Nov 11 2026. No macro, syntax, notation, axiom, sorry.
-/
import Derived.Test.YtgeiafijibgdhaaChecked
import GoSem.Claim
import GoSem.ClaimJoined
import GoSem.ClaimMapViews
import Derived.JoinedTies
import Derived.KernelRfl
namespace Go.Proofs.Ytgeiafijibgdhaa
/- THE CELL 'sum', in the pinned program and in every row, IS THE sha256 OF THE DUMP (.gsa) THAT YtgeiafijibgdhaaProg.lean LOADS. Nothing in Lean hashes anything: it is a label: what it is worth is what the hold of that sum in a sandbox is worth. -/
noncomputable def Try.pinned : Pinned := { name := "ytgeiafijibgdhaa", sum := "516382f6ca11705820540d662afef833ef12e4673d4ac5389617418a01748b44", checked := Try.checked }
namespace Rows
def none {H : Type} : Left H := { results := [], args := [] }

/-- 'clathrilaw12.NodeAll': WHATEVER THE INPUT: true; the input reads as it did. -/
def nodeAllSpec : ChangeSpec := { name := "nodeAll", fn := fun _ => fun
  | [d1, d2, d3] => { results := [.lit (.bool true)], args := [d1, d2, d3] }
  | _ => none }
def nodeAllRow : OpenClaim := { program := "ytgeiafijibgdhaa", sum := "516382f6ca11705820540d662afef833ef12e4673d4ac5389617418a01748b44", func := "clathri/clathrilaw12.NodeAll", spec := "nodeAll", unfollowed := true, recurses := true, apart := false }
def NodeAllSaid : Prop := nodeAllRow.holds Try.pinned (OpenSpec.ofChange nodeAllSpec)

/-- ITS FALSE NEIGHBOUR: 'it returns false'. Refute it at one input. -/
def nodeAllWrong : ChangeSpec := { name := "nodeAll", fn := fun _ => fun
  | [d1, d2, d3] => { results := [.lit (.bool false)], args := [d1, d2, d3] }
  | _ => none }
def NodeAllWrongFalsely : Prop := nodeAllRow.holds Try.pinned (OpenSpec.ofChange nodeAllWrong)

/-- 'clathrilaw12.NodeBack': WHATEVER THE INPUT: true; the input reads as it did. -/
def nodeBackSpec : ChangeSpec := { name := "nodeBack", fn := fun _ => fun
  | [d1, d2, d3, d4] => { results := [.lit (.bool true)], args := [d1, d2, d3, d4] }
  | _ => none }
def nodeBackRow : OpenClaim := { program := "ytgeiafijibgdhaa", sum := "516382f6ca11705820540d662afef833ef12e4673d4ac5389617418a01748b44", func := "clathri/clathrilaw12.NodeBack", spec := "nodeBack", unfollowed := true, recurses := true, apart := false }
def NodeBackSaid : Prop := nodeBackRow.holds Try.pinned (OpenSpec.ofChange nodeBackSpec)

/-- ITS FALSE NEIGHBOUR: 'it returns false'. Refute it at one input. -/
def nodeBackWrong : ChangeSpec := { name := "nodeBack", fn := fun _ => fun
  | [d1, d2, d3, d4] => { results := [.lit (.bool false)], args := [d1, d2, d3, d4] }
  | _ => none }
def NodeBackWrongFalsely : Prop := nodeBackRow.holds Try.pinned (OpenSpec.ofChange nodeBackWrong)

/-- 'clathrilaw12.NodeForms': WHATEVER THE INPUT: true; the input reads as it did. -/
def nodeFormsSpec : ChangeSpec := { name := "nodeForms", fn := fun _ => fun
  | [] => { results := [.lit (.bool true)], args := [] }
  | _ => none }
def nodeFormsRow : OpenClaim := { program := "ytgeiafijibgdhaa", sum := "516382f6ca11705820540d662afef833ef12e4673d4ac5389617418a01748b44", func := "clathri/clathrilaw12.NodeForms", spec := "nodeForms", unfollowed := true, recurses := true, apart := false }
def NodeFormsSaid : Prop := nodeFormsRow.holds Try.pinned (OpenSpec.ofChange nodeFormsSpec)

/-- ITS FALSE NEIGHBOUR: 'it returns false'. Refute it at one input. -/
def nodeFormsWrong : ChangeSpec := { name := "nodeForms", fn := fun _ => fun
  | [] => { results := [.lit (.bool false)], args := [] }
  | _ => none }
def NodeFormsWrongFalsely : Prop := nodeFormsRow.holds Try.pinned (OpenSpec.ofChange nodeFormsWrong)

/-- 'clathrilaw14.EntryAll': WHATEVER THE INPUT: true; the input reads as it did. -/
def entryAllSpec : ChangeSpec := { name := "entryAll", fn := fun _ => fun
  | [d1, d2, d3] => { results := [.lit (.bool true)], args := [d1, d2, d3] }
  | _ => none }
def entryAllRow : OpenClaim := { program := "ytgeiafijibgdhaa", sum := "516382f6ca11705820540d662afef833ef12e4673d4ac5389617418a01748b44", func := "clathri/clathrilaw14.EntryAll", spec := "entryAll", unfollowed := true, recurses := true, apart := false }
def EntryAllSaid : Prop := entryAllRow.holds Try.pinned (OpenSpec.ofChange entryAllSpec)

/-- ITS FALSE NEIGHBOUR: 'it returns false'. Refute it at one input. -/
def entryAllWrong : ChangeSpec := { name := "entryAll", fn := fun _ => fun
  | [d1, d2, d3] => { results := [.lit (.bool false)], args := [d1, d2, d3] }
  | _ => none }
def EntryAllWrongFalsely : Prop := entryAllRow.holds Try.pinned (OpenSpec.ofChange entryAllWrong)

/-- 'clathrilaw14.EntryBack': WHATEVER THE INPUT: true; the input reads as it did. -/
def entryBackSpec : ChangeSpec := { name := "entryBack", fn := fun _ => fun
  | [d1, d2, d3] => { results := [.lit (.bool true)], args := [d1, d2, d3] }
  | _ => none }
def entryBackRow : OpenClaim := { program := "ytgeiafijibgdhaa", sum := "516382f6ca11705820540d662afef833ef12e4673d4ac5389617418a01748b44", func := "clathri/clathrilaw14.EntryBack", spec := "entryBack", unfollowed := true, recurses := true, apart := false }
def EntryBackSaid : Prop := entryBackRow.holds Try.pinned (OpenSpec.ofChange entryBackSpec)

/-- ITS FALSE NEIGHBOUR: 'it returns false'. Refute it at one input. -/
def entryBackWrong : ChangeSpec := { name := "entryBack", fn := fun _ => fun
  | [d1, d2, d3] => { results := [.lit (.bool false)], args := [d1, d2, d3] }
  | _ => none }
def EntryBackWrongFalsely : Prop := entryBackRow.holds Try.pinned (OpenSpec.ofChange entryBackWrong)

/-- 'clathrilaw14.EntryForms': WHATEVER THE INPUT: true; the input reads as it did. -/
def entryFormsSpec : ChangeSpec := { name := "entryForms", fn := fun _ => fun
  | [] => { results := [.lit (.bool true)], args := [] }
  | _ => none }
def entryFormsRow : OpenClaim := { program := "ytgeiafijibgdhaa", sum := "516382f6ca11705820540d662afef833ef12e4673d4ac5389617418a01748b44", func := "clathri/clathrilaw14.EntryForms", spec := "entryForms", unfollowed := true, recurses := true, apart := false }
def EntryFormsSaid : Prop := entryFormsRow.holds Try.pinned (OpenSpec.ofChange entryFormsSpec)

/-- ITS FALSE NEIGHBOUR: 'it returns false'. Refute it at one input. -/
def entryFormsWrong : ChangeSpec := { name := "entryForms", fn := fun _ => fun
  | [] => { results := [.lit (.bool false)], args := [] }
  | _ => none }
def EntryFormsWrongFalsely : Prop := entryFormsRow.holds Try.pinned (OpenSpec.ofChange entryFormsWrong)

/-- 'clathrilaw7.RecAll': WHATEVER THE INPUT: true; the input reads as it did. -/
def recAllSpec : ChangeSpec := { name := "recAll", fn := fun _ => fun
  | [d1, d2, d3, d4, d5, d6] => { results := [.lit (.bool true)], args := [d1, d2, d3, d4, d5, d6] }
  | _ => none }
def recAllRow : OpenClaim := { program := "ytgeiafijibgdhaa", sum := "516382f6ca11705820540d662afef833ef12e4673d4ac5389617418a01748b44", func := "clathri/clathrilaw7.RecAll", spec := "recAll", apart := false }
def RecAllSaid : Prop := recAllRow.holds Try.pinned (OpenSpec.ofChange recAllSpec)

/-- ITS FALSE NEIGHBOUR: 'it returns false'. Refute it at one input. -/
def recAllWrong : ChangeSpec := { name := "recAll", fn := fun _ => fun
  | [d1, d2, d3, d4, d5, d6] => { results := [.lit (.bool false)], args := [d1, d2, d3, d4, d5, d6] }
  | _ => none }
def RecAllWrongFalsely : Prop := recAllRow.holds Try.pinned (OpenSpec.ofChange recAllWrong)

/-- 'clathrilaw7.RecBack': WHATEVER THE INPUT: true; the input reads as it did. -/
def recBackSpec : ChangeSpec := { name := "recBack", fn := fun _ => fun
  | [d1, d2, d3, d4, d5, d6, d7, d8, d9, d10] => { results := [.lit (.bool true)], args := [d1, d2, d3, d4, d5, d6, d7, d8, d9, d10] }
  | _ => none }
def recBackRow : OpenClaim := { program := "ytgeiafijibgdhaa", sum := "516382f6ca11705820540d662afef833ef12e4673d4ac5389617418a01748b44", func := "clathri/clathrilaw7.RecBack", spec := "recBack", apart := false }
def RecBackSaid : Prop := recBackRow.holds Try.pinned (OpenSpec.ofChange recBackSpec)

/-- ITS FALSE NEIGHBOUR: 'it returns false'. Refute it at one input. -/
def recBackWrong : ChangeSpec := { name := "recBack", fn := fun _ => fun
  | [d1, d2, d3, d4, d5, d6, d7, d8, d9, d10] => { results := [.lit (.bool false)], args := [d1, d2, d3, d4, d5, d6, d7, d8, d9, d10] }
  | _ => none }
def RecBackWrongFalsely : Prop := recBackRow.holds Try.pinned (OpenSpec.ofChange recBackWrong)

/-- 'clathrilaw7.RecOld': WHATEVER THE INPUT: true; the input reads as it did. -/
def recOldSpec : ChangeSpec := { name := "recOld", fn := fun _ => fun
  | [d1, d2, d3, d4, d5, d6] => { results := [.lit (.bool true)], args := [d1, d2, d3, d4, d5, d6] }
  | _ => none }
def recOldRow : OpenClaim := { program := "ytgeiafijibgdhaa", sum := "516382f6ca11705820540d662afef833ef12e4673d4ac5389617418a01748b44", func := "clathri/clathrilaw7.RecOld", spec := "recOld", apart := false }
def RecOldSaid : Prop := recOldRow.holds Try.pinned (OpenSpec.ofChange recOldSpec)

/-- ITS FALSE NEIGHBOUR: 'it returns false'. Refute it at one input. -/
def recOldWrong : ChangeSpec := { name := "recOld", fn := fun _ => fun
  | [d1, d2, d3, d4, d5, d6] => { results := [.lit (.bool false)], args := [d1, d2, d3, d4, d5, d6] }
  | _ => none }
def RecOldWrongFalsely : Prop := recOldRow.holds Try.pinned (OpenSpec.ofChange recOldWrong)

/-- 'clathrilaw7.RecAnchors': WHATEVER THE INPUT: true; the input reads as it did. -/
def recAnchorsSpec : ChangeSpec := { name := "recAnchors", fn := fun _ => fun
  | [d1, d2, d3, d4, d5] => { results := [.lit (.bool true)], args := [d1, d2, d3, d4, d5] }
  | _ => none }
def recAnchorsRow : OpenClaim := { program := "ytgeiafijibgdhaa", sum := "516382f6ca11705820540d662afef833ef12e4673d4ac5389617418a01748b44", func := "clathri/clathrilaw7.RecAnchors", spec := "recAnchors", apart := false }
def RecAnchorsSaid : Prop := recAnchorsRow.holds Try.pinned (OpenSpec.ofChange recAnchorsSpec)

/-- ITS FALSE NEIGHBOUR: 'it returns false'. Refute it at one input. -/
def recAnchorsWrong : ChangeSpec := { name := "recAnchors", fn := fun _ => fun
  | [d1, d2, d3, d4, d5] => { results := [.lit (.bool false)], args := [d1, d2, d3, d4, d5] }
  | _ => none }
def RecAnchorsWrongFalsely : Prop := recAnchorsRow.holds Try.pinned (OpenSpec.ofChange recAnchorsWrong)

/-- 'clathrilaw7.RecForms': WHATEVER THE INPUT: true; the input reads as it did. -/
def recFormsSpec : ChangeSpec := { name := "recForms", fn := fun _ => fun
  | [] => { results := [.lit (.bool true)], args := [] }
  | _ => none }
def recFormsRow : OpenClaim := { program := "ytgeiafijibgdhaa", sum := "516382f6ca11705820540d662afef833ef12e4673d4ac5389617418a01748b44", func := "clathri/clathrilaw7.RecForms", spec := "recForms", apart := false }
def RecFormsSaid : Prop := recFormsRow.holds Try.pinned (OpenSpec.ofChange recFormsSpec)

/-- ITS FALSE NEIGHBOUR: 'it returns false'. Refute it at one input. -/
def recFormsWrong : ChangeSpec := { name := "recForms", fn := fun _ => fun
  | [] => { results := [.lit (.bool false)], args := [] }
  | _ => none }
def RecFormsWrongFalsely : Prop := recFormsRow.holds Try.pinned (OpenSpec.ofChange recFormsWrong)

/-- 'clathrilaw7.RecRow': WHATEVER THE INPUT: true; the input reads as it did. -/
def recRowSpec : ChangeSpec := { name := "recRow", fn := fun _ => fun
  | [d1, d2, d3, d4, d5] => { results := [.lit (.bool true)], args := [d1, d2, d3, d4, d5] }
  | _ => none }
def recRowRow : OpenClaim := { program := "ytgeiafijibgdhaa", sum := "516382f6ca11705820540d662afef833ef12e4673d4ac5389617418a01748b44", func := "clathri/clathrilaw7.RecRow", spec := "recRow", apart := false }
def RecRowSaid : Prop := recRowRow.holds Try.pinned (OpenSpec.ofChange recRowSpec)

/-- ITS FALSE NEIGHBOUR: 'it returns false'. Refute it at one input. -/
def recRowWrong : ChangeSpec := { name := "recRow", fn := fun _ => fun
  | [d1, d2, d3, d4, d5] => { results := [.lit (.bool false)], args := [d1, d2, d3, d4, d5] }
  | _ => none }
def RecRowWrongFalsely : Prop := recRowRow.holds Try.pinned (OpenSpec.ofChange recRowWrong)

/- THE SECOND FORM. 'bulk': how many values and letters a reading holds, each counted each time it is reached (what is shared counts as often as it is met; a slice's spare places count too). A statement '..UptoSaid' is the law's where the arguments, and the package variables that the reading takes, are together of bulk at most 1048576: NARROWER than '..Said'. Prove '..Said' where nothing that the law and all that it calls make is longer than what came in: it says more and counts as full. Else prove '..UptoSaid'. A law counts once. -/
mutual
def uptoBulk {H : Type} : DataW H → Nat
  | .lit (.string bytes) => bytes.length + 1
  | .lit _ => 1
  | .nil => 1
  | .ptr d => uptoBulk d + 1
  | .slice elems spare => uptoBulkAll elems + uptoBulkAll spare + 1
  | .agg parts => uptoBulkAll parts + 1
  | .iface _ d => uptoBulk d + 1
  | .map entries => uptoBulkEntries entries + 1
  | .held _ => 1
def uptoBulkAll {H : Type} : List (DataW H) → Nat
  | [] => 0
  | d :: r => uptoBulk d + uptoBulkAll r
def uptoBulkEntries {H : Type} : List (Lit × DataW H) → Nat
  | [] => 0
  | x :: r => uptoBulkEntry x + uptoBulkEntries r
def uptoBulkEntry {H : Type} : Lit × DataW H → Nat
  | (.string bytes, d) => bytes.length + uptoBulk d + 1
  | (_, d) => uptoBulk d + 1
 end
def uptoSmall : (H : Type) → List (DataW H) → Bool := fun _ ds => decide (uptoBulkAll ds ≤ 1048576)
def OpenSpec.upto (s : _root_.Go.ChangeSpec) : _root_.Go.OpenSpec := { _root_.Go.OpenSpec.ofChange s with cond := some uptoSmall }

/-- 'clathrilaw12.NodeAll', WHERE WHAT IT READS IS OF BULK AT MOST 1048576: true; the input reads as it did. -/
def nodeAllUptoRow : OpenClaim := { program := "ytgeiafijibgdhaa", sum := "516382f6ca11705820540d662afef833ef12e4673d4ac5389617418a01748b44", func := "clathri/clathrilaw12.NodeAll", spec := "nodeAll", unfollowed := true, recurses := true, apart := false, narrowed := true }
def NodeAllUptoSaid : Prop := nodeAllUptoRow.holds Try.pinned (OpenSpec.upto nodeAllSpec)

/-- 'clathrilaw12.NodeBack', WHERE WHAT IT READS IS OF BULK AT MOST 1048576: true; the input reads as it did. -/
def nodeBackUptoRow : OpenClaim := { program := "ytgeiafijibgdhaa", sum := "516382f6ca11705820540d662afef833ef12e4673d4ac5389617418a01748b44", func := "clathri/clathrilaw12.NodeBack", spec := "nodeBack", unfollowed := true, recurses := true, apart := false, narrowed := true }
def NodeBackUptoSaid : Prop := nodeBackUptoRow.holds Try.pinned (OpenSpec.upto nodeBackSpec)

/-- 'clathrilaw12.NodeForms', WHERE WHAT IT READS IS OF BULK AT MOST 1048576: true; the input reads as it did. -/
def nodeFormsUptoRow : OpenClaim := { program := "ytgeiafijibgdhaa", sum := "516382f6ca11705820540d662afef833ef12e4673d4ac5389617418a01748b44", func := "clathri/clathrilaw12.NodeForms", spec := "nodeForms", unfollowed := true, recurses := true, apart := false, narrowed := true }
def NodeFormsUptoSaid : Prop := nodeFormsUptoRow.holds Try.pinned (OpenSpec.upto nodeFormsSpec)

/-- 'clathrilaw14.EntryAll', WHERE WHAT IT READS IS OF BULK AT MOST 1048576: true; the input reads as it did. -/
def entryAllUptoRow : OpenClaim := { program := "ytgeiafijibgdhaa", sum := "516382f6ca11705820540d662afef833ef12e4673d4ac5389617418a01748b44", func := "clathri/clathrilaw14.EntryAll", spec := "entryAll", unfollowed := true, recurses := true, apart := false, narrowed := true }
def EntryAllUptoSaid : Prop := entryAllUptoRow.holds Try.pinned (OpenSpec.upto entryAllSpec)

/-- 'clathrilaw14.EntryBack', WHERE WHAT IT READS IS OF BULK AT MOST 1048576: true; the input reads as it did. -/
def entryBackUptoRow : OpenClaim := { program := "ytgeiafijibgdhaa", sum := "516382f6ca11705820540d662afef833ef12e4673d4ac5389617418a01748b44", func := "clathri/clathrilaw14.EntryBack", spec := "entryBack", unfollowed := true, recurses := true, apart := false, narrowed := true }
def EntryBackUptoSaid : Prop := entryBackUptoRow.holds Try.pinned (OpenSpec.upto entryBackSpec)

/-- 'clathrilaw14.EntryForms', WHERE WHAT IT READS IS OF BULK AT MOST 1048576: true; the input reads as it did. -/
def entryFormsUptoRow : OpenClaim := { program := "ytgeiafijibgdhaa", sum := "516382f6ca11705820540d662afef833ef12e4673d4ac5389617418a01748b44", func := "clathri/clathrilaw14.EntryForms", spec := "entryForms", unfollowed := true, recurses := true, apart := false, narrowed := true }
def EntryFormsUptoSaid : Prop := entryFormsUptoRow.holds Try.pinned (OpenSpec.upto entryFormsSpec)

/-- 'clathrilaw7.RecAll', WHERE WHAT IT READS IS OF BULK AT MOST 1048576: true; the input reads as it did. -/
def recAllUptoRow : OpenClaim := { program := "ytgeiafijibgdhaa", sum := "516382f6ca11705820540d662afef833ef12e4673d4ac5389617418a01748b44", func := "clathri/clathrilaw7.RecAll", spec := "recAll", apart := false, narrowed := true }
def RecAllUptoSaid : Prop := recAllUptoRow.holds Try.pinned (OpenSpec.upto recAllSpec)

/-- 'clathrilaw7.RecBack', WHERE WHAT IT READS IS OF BULK AT MOST 1048576: true; the input reads as it did. -/
def recBackUptoRow : OpenClaim := { program := "ytgeiafijibgdhaa", sum := "516382f6ca11705820540d662afef833ef12e4673d4ac5389617418a01748b44", func := "clathri/clathrilaw7.RecBack", spec := "recBack", apart := false, narrowed := true }
def RecBackUptoSaid : Prop := recBackUptoRow.holds Try.pinned (OpenSpec.upto recBackSpec)

/-- 'clathrilaw7.RecOld', WHERE WHAT IT READS IS OF BULK AT MOST 1048576: true; the input reads as it did. -/
def recOldUptoRow : OpenClaim := { program := "ytgeiafijibgdhaa", sum := "516382f6ca11705820540d662afef833ef12e4673d4ac5389617418a01748b44", func := "clathri/clathrilaw7.RecOld", spec := "recOld", apart := false, narrowed := true }
def RecOldUptoSaid : Prop := recOldUptoRow.holds Try.pinned (OpenSpec.upto recOldSpec)

/-- 'clathrilaw7.RecAnchors', WHERE WHAT IT READS IS OF BULK AT MOST 1048576: true; the input reads as it did. -/
def recAnchorsUptoRow : OpenClaim := { program := "ytgeiafijibgdhaa", sum := "516382f6ca11705820540d662afef833ef12e4673d4ac5389617418a01748b44", func := "clathri/clathrilaw7.RecAnchors", spec := "recAnchors", apart := false, narrowed := true }
def RecAnchorsUptoSaid : Prop := recAnchorsUptoRow.holds Try.pinned (OpenSpec.upto recAnchorsSpec)

/-- 'clathrilaw7.RecForms', WHERE WHAT IT READS IS OF BULK AT MOST 1048576: true; the input reads as it did. -/
def recFormsUptoRow : OpenClaim := { program := "ytgeiafijibgdhaa", sum := "516382f6ca11705820540d662afef833ef12e4673d4ac5389617418a01748b44", func := "clathri/clathrilaw7.RecForms", spec := "recForms", apart := false, narrowed := true }
def RecFormsUptoSaid : Prop := recFormsUptoRow.holds Try.pinned (OpenSpec.upto recFormsSpec)

/-- 'clathrilaw7.RecRow', WHERE WHAT IT READS IS OF BULK AT MOST 1048576: true; the input reads as it did. -/
def recRowUptoRow : OpenClaim := { program := "ytgeiafijibgdhaa", sum := "516382f6ca11705820540d662afef833ef12e4673d4ac5389617418a01748b44", func := "clathri/clathrilaw7.RecRow", spec := "recRow", apart := false, narrowed := true }
def RecRowUptoSaid : Prop := recRowUptoRow.holds Try.pinned (OpenSpec.upto recRowSpec)

end Rows
end Go.Proofs.Ytgeiafijibgdhaa
