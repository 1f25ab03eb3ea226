/-
  No cell of these rows narrows 'for every input' (looked for: loops, veiled, ifaces, maps, wideKeys, modest, calm, conditions, laid).
  DERIVED. THE GIVEN ROWS OF THIS SEAT. 3 by the template 'for every input the law returns true; each argument reads behind the call as it read before'; 0 by the template 'total and deterministic' (their statements: YtniomgngiiiklabTotals.lean).
  GIVEN WITH THE SEED: the statements are not yours to turn. If you find one false, say at which input.
  Laid BY PROGRAM, IN A SANDBOX (cutbox-rows.mjs): the forced cells as the released guide's own fill.sh prints them over the translation a738528b24b7407c… (all of the seat's roots in one cut). By AI agents, Wed Nov 11 2026. No macro, syntax, notation, axiom, sorry.
-/
import Derived.Test.YtniomgngiiiklabChecked
import GoSem.Claim
import GoSem.ClaimJoined
import GoSem.ClaimMapViews
import Derived.JoinedTies
import Derived.KernelRfl
namespace Go.Proofs.Ytniomgngiiiklab
/- THE CELL 'sum', in the pinned program and in every row, IS THE sha256 OF THE DUMP (.gsa) THAT YtniomgngiiiklabProg.lean LOADS. Nothing in Lean hashes anything: it is a label: what it is worth is what the hold of that sum in a sandbox is worth. -/
noncomputable def Try.pinned : Pinned := { name := "ytniomgngiiiklab", sum := "a738528b24b7407ce29e111db867810ab1da86cfc22103cb456b380e16927075", checked := Try.checked }
namespace Rows
def none {H : Type} : Left H := { results := [], args := [] }

/-- 'rickyardlaw.RowUndoes': WHATEVER THE INPUT: true; the input reads as it did. -/
def rowUndoesSpec : ChangeSpec := { name := "rowUndoes", fn := fun _ => fun
  | [d1, d2] => { results := [.lit (.bool true)], args := [d1, d2] }
  | _ => none }
def rowUndoesRow : OpenClaim := { program := "ytniomgngiiiklab", sum := "a738528b24b7407ce29e111db867810ab1da86cfc22103cb456b380e16927075", func := "rickyard/rickyardlaw.RowUndoes", spec := "rowUndoes", inPlace := ["slices.overlaps[rickyard/api.Record]"], unfollowed := true, recurses := true, apart := false }
def RowUndoesSaid : Prop := rowUndoesRow.holds Try.pinned (OpenSpec.ofChange rowUndoesSpec)

/-- ITS FALSE NEIGHBOUR: 'it returns false'. Refute it at one input. -/
def rowUndoesWrong : ChangeSpec := { name := "rowUndoes", fn := fun _ => fun
  | [d1, d2] => { results := [.lit (.bool false)], args := [d1, d2] }
  | _ => none }
def RowUndoesWrongFalsely : Prop := rowUndoesRow.holds Try.pinned (OpenSpec.ofChange rowUndoesWrong)

/-- 'rickyardlaw.TxnDoes': WHATEVER THE INPUT: true; the input reads as it did. -/
def txnDoesSpec : ChangeSpec := { name := "txnDoes", fn := fun _ => fun
  | [d1, d2] => { results := [.lit (.bool true)], args := [d1, d2] }
  | _ => none }
def txnDoesRow : OpenClaim := { program := "ytniomgngiiiklab", sum := "a738528b24b7407ce29e111db867810ab1da86cfc22103cb456b380e16927075", func := "rickyard/rickyardlaw.TxnDoes", spec := "txnDoes", inPlace := ["internal/bytealg.abigen_runtime_cmpstring", "slices.overlaps[rickyard/api.Write]", "slices.overlaps[rickyard/api.Row]", "slices.overlaps[rickyard/api.Record]"], unfollowed := true, recurses := true, apart := false }
def TxnDoesSaid : Prop := txnDoesRow.holds Try.pinned (OpenSpec.ofChange txnDoesSpec)

/-- ITS FALSE NEIGHBOUR: 'it returns false'. Refute it at one input. -/
def txnDoesWrong : ChangeSpec := { name := "txnDoes", fn := fun _ => fun
  | [d1, d2] => { results := [.lit (.bool false)], args := [d1, d2] }
  | _ => none }
def TxnDoesWrongFalsely : Prop := txnDoesRow.holds Try.pinned (OpenSpec.ofChange txnDoesWrong)

/-- 'rickyardlaw.TxnRuns': WHATEVER THE INPUT: true; the input reads as it did. -/
def txnRunsSpec : ChangeSpec := { name := "txnRuns", fn := fun _ => fun
  | [d1, d2] => { results := [.lit (.bool true)], args := [d1, d2] }
  | _ => none }
def txnRunsRow : OpenClaim := { program := "ytniomgngiiiklab", sum := "a738528b24b7407ce29e111db867810ab1da86cfc22103cb456b380e16927075", func := "rickyard/rickyardlaw.TxnRuns", spec := "txnRuns", inPlace := ["internal/bytealg.abigen_runtime_cmpstring", "slices.overlaps[rickyard/api.Write]", "slices.overlaps[rickyard/api.Row]", "slices.overlaps[rickyard/api.Record]"], unfollowed := true, recurses := true, apart := false }
def TxnRunsSaid : Prop := txnRunsRow.holds Try.pinned (OpenSpec.ofChange txnRunsSpec)

/-- ITS FALSE NEIGHBOUR: 'it returns false'. Refute it at one input. -/
def txnRunsWrong : ChangeSpec := { name := "txnRuns", fn := fun _ => fun
  | [d1, d2] => { results := [.lit (.bool false)], args := [d1, d2] }
  | _ => none }
def TxnRunsWrongFalsely : Prop := txnRunsRow.holds Try.pinned (OpenSpec.ofChange txnRunsWrong)

/- THE SECOND FORM. 'bulk': how many values and letters a reading holds, each counted each time it is reached (what is shared counts as often as it is met; a slice's spare places count too). A statement '..UptoSaid' is the law's where the arguments, and the package variables that the reading takes, are together of bulk at most 1048576: NARROWER than '..Said'. Prove '..Said' where nothing that the law and all that it calls make is longer than what came in: it says more and counts as full. Else prove '..UptoSaid'. A law counts once. -/
mutual
def uptoBulk {H : Type} : DataW H → Nat
  | .lit (.string bytes) => bytes.length + 1
  | .lit _ => 1
  | .nil => 1
  | .ptr d => uptoBulk d + 1
  | .slice elems spare => uptoBulkAll elems + uptoBulkAll spare + 1
  | .agg parts => uptoBulkAll parts + 1
  | .iface _ d => uptoBulk d + 1
  | .map entries => uptoBulkEntries entries + 1
  | .held _ => 1
def uptoBulkAll {H : Type} : List (DataW H) → Nat
  | [] => 0
  | d :: r => uptoBulk d + uptoBulkAll r
def uptoBulkEntries {H : Type} : List (Lit × DataW H) → Nat
  | [] => 0
  | x :: r => uptoBulkEntry x + uptoBulkEntries r
def uptoBulkEntry {H : Type} : Lit × DataW H → Nat
  | (.string bytes, d) => bytes.length + uptoBulk d + 1
  | (_, d) => uptoBulk d + 1
 end
def uptoSmall : (H : Type) → List (DataW H) → Bool := fun _ ds => decide (uptoBulkAll ds ≤ 1048576)
def OpenSpec.upto (s : _root_.Go.ChangeSpec) : _root_.Go.OpenSpec := { _root_.Go.OpenSpec.ofChange s with cond := some uptoSmall }

/-- 'rickyardlaw.RowUndoes', WHERE WHAT IT READS IS OF BULK AT MOST 1048576: true; the input reads as it did. -/
def rowUndoesUptoRow : OpenClaim := { program := "ytniomgngiiiklab", sum := "a738528b24b7407ce29e111db867810ab1da86cfc22103cb456b380e16927075", func := "rickyard/rickyardlaw.RowUndoes", spec := "rowUndoes", inPlace := ["slices.overlaps[rickyard/api.Record]"], unfollowed := true, recurses := true, apart := false, narrowed := true }
def RowUndoesUptoSaid : Prop := rowUndoesUptoRow.holds Try.pinned (OpenSpec.upto rowUndoesSpec)

/-- 'rickyardlaw.TxnDoes', WHERE WHAT IT READS IS OF BULK AT MOST 1048576: true; the input reads as it did. -/
def txnDoesUptoRow : OpenClaim := { program := "ytniomgngiiiklab", sum := "a738528b24b7407ce29e111db867810ab1da86cfc22103cb456b380e16927075", func := "rickyard/rickyardlaw.TxnDoes", spec := "txnDoes", inPlace := ["internal/bytealg.abigen_runtime_cmpstring", "slices.overlaps[rickyard/api.Write]", "slices.overlaps[rickyard/api.Row]", "slices.overlaps[rickyard/api.Record]"], unfollowed := true, recurses := true, apart := false, narrowed := true }
def TxnDoesUptoSaid : Prop := txnDoesUptoRow.holds Try.pinned (OpenSpec.upto txnDoesSpec)

/-- 'rickyardlaw.TxnRuns', WHERE WHAT IT READS IS OF BULK AT MOST 1048576: true; the input reads as it did. -/
def txnRunsUptoRow : OpenClaim := { program := "ytniomgngiiiklab", sum := "a738528b24b7407ce29e111db867810ab1da86cfc22103cb456b380e16927075", func := "rickyard/rickyardlaw.TxnRuns", spec := "txnRuns", inPlace := ["internal/bytealg.abigen_runtime_cmpstring", "slices.overlaps[rickyard/api.Write]", "slices.overlaps[rickyard/api.Row]", "slices.overlaps[rickyard/api.Record]"], unfollowed := true, recurses := true, apart := false, narrowed := true }
def TxnRunsUptoSaid : Prop := txnRunsUptoRow.holds Try.pinned (OpenSpec.upto txnRunsSpec)

end Rows
end Go.Proofs.Ytniomgngiiiklab
