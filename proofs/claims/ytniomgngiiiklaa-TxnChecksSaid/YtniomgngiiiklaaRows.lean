/-
  No cell of these rows narrows 'for every input' (looked for: loops, veiled, ifaces, maps, wideKeys, modest, calm, conditions, laid).
  DERIVED. THE GIVEN ROWS OF THIS SEAT. 10 by the template 'for every input the law returns true; each argument reads behind the call as it read before'; 0 by the template 'total and deterministic' (their statements: YtniomgngiiiklaaTotals.lean).
  GIVEN WITH THE SEED: the statements are not yours to turn. If you find one false, say at which input.
  Laid BY PROGRAM, IN A SANDBOX (cutbox-rows.mjs): the forced cells as the released guide's own fill.sh prints them over the translation 1f536ed6577c7cea… (all of the seat's roots in one cut). By AI agents, Wed Nov 11 2026. No macro, syntax, notation, axiom, sorry.
-/
import Derived.Test.YtniomgngiiiklaaChecked
import GoSem.Claim
import GoSem.ClaimJoined
import GoSem.ClaimMapViews
import Derived.JoinedTies
import Derived.KernelRfl
namespace Go.Proofs.Ytniomgngiiiklaa
/- THE CELL 'sum', in the pinned program and in every row, IS THE sha256 OF THE DUMP (.gsa) THAT YtniomgngiiiklaaProg.lean LOADS. Nothing in Lean hashes anything: it is a label: what it is worth is what the hold of that sum in a sandbox is worth. -/
noncomputable def Try.pinned : Pinned := { name := "ytniomgngiiiklaa", sum := "1f536ed6577c7cead69d710a9907afbcc83bb2e2e42d6f4c9a814349d4acfd1d", checked := Try.checked }
namespace Rows
def none {H : Type} : Left H := { results := [], args := [] }

/-- 'rickyardlaw.Names': WHATEVER THE INPUT: true; the input reads as it did. -/
def namesSpec : ChangeSpec := { name := "names", fn := fun _ => fun
  | [] => { results := [.lit (.bool true)], args := [] }
  | _ => none }
def namesRow : OpenClaim := { program := "ytniomgngiiiklaa", sum := "1f536ed6577c7cead69d710a9907afbcc83bb2e2e42d6f4c9a814349d4acfd1d", func := "rickyard/rickyardlaw.Names", spec := "names", apart := false }
def NamesSaid : Prop := namesRow.holds Try.pinned (OpenSpec.ofChange namesSpec)

/-- ITS FALSE NEIGHBOUR: 'it returns false'. Refute it at one input. -/
def namesWrong : ChangeSpec := { name := "names", fn := fun _ => fun
  | [] => { results := [.lit (.bool false)], args := [] }
  | _ => none }
def NamesWrongFalsely : Prop := namesRow.holds Try.pinned (OpenSpec.ofChange namesWrong)

/-- 'rickyardlaw.RowCopies': WHATEVER THE INPUT: true; the input reads as it did. -/
def rowCopiesSpec : ChangeSpec := { name := "rowCopies", fn := fun _ => fun
  | [d] => { results := [.lit (.bool true)], args := [d] }
  | _ => none }
def rowCopiesRow : OpenClaim := { program := "ytniomgngiiiklaa", sum := "1f536ed6577c7cead69d710a9907afbcc83bb2e2e42d6f4c9a814349d4acfd1d", func := "rickyard/rickyardlaw.RowCopies", spec := "rowCopies", apart := false }
def RowCopiesSaid : Prop := rowCopiesRow.holds Try.pinned (OpenSpec.ofChange rowCopiesSpec)

/-- ITS FALSE NEIGHBOUR: 'it returns false'. Refute it at one input. -/
def rowCopiesWrong : ChangeSpec := { name := "rowCopies", fn := fun _ => fun
  | [d] => { results := [.lit (.bool false)], args := [d] }
  | _ => none }
def RowCopiesWrongFalsely : Prop := rowCopiesRow.holds Try.pinned (OpenSpec.ofChange rowCopiesWrong)

/-- 'rickyardlaw.RowKeys': WHATEVER THE INPUT: true; the input reads as it did. -/
def rowKeysSpec : ChangeSpec := { name := "rowKeys", fn := fun _ => fun
  | [d] => { results := [.lit (.bool true)], args := [d] }
  | _ => none }
def rowKeysRow : OpenClaim := { program := "ytniomgngiiiklaa", sum := "1f536ed6577c7cead69d710a9907afbcc83bb2e2e42d6f4c9a814349d4acfd1d", func := "rickyard/rickyardlaw.RowKeys", spec := "rowKeys", unfollowed := true, recurses := true, apart := false }
def RowKeysSaid : Prop := rowKeysRow.holds Try.pinned (OpenSpec.ofChange rowKeysSpec)

/-- ITS FALSE NEIGHBOUR: 'it returns false'. Refute it at one input. -/
def rowKeysWrong : ChangeSpec := { name := "rowKeys", fn := fun _ => fun
  | [d] => { results := [.lit (.bool false)], args := [d] }
  | _ => none }
def RowKeysWrongFalsely : Prop := rowKeysRow.holds Try.pinned (OpenSpec.ofChange rowKeysWrong)

/-- 'rickyardlaw.TxnCopies': WHATEVER THE INPUT: true; the input reads as it did. -/
def txnCopiesSpec : ChangeSpec := { name := "txnCopies", fn := fun _ => fun
  | [d] => { results := [.lit (.bool true)], args := [d] }
  | _ => none }
def txnCopiesRow : OpenClaim := { program := "ytniomgngiiiklaa", sum := "1f536ed6577c7cead69d710a9907afbcc83bb2e2e42d6f4c9a814349d4acfd1d", func := "rickyard/rickyardlaw.TxnCopies", spec := "txnCopies", apart := false }
def TxnCopiesSaid : Prop := txnCopiesRow.holds Try.pinned (OpenSpec.ofChange txnCopiesSpec)

/-- ITS FALSE NEIGHBOUR: 'it returns false'. Refute it at one input. -/
def txnCopiesWrong : ChangeSpec := { name := "txnCopies", fn := fun _ => fun
  | [d] => { results := [.lit (.bool false)], args := [d] }
  | _ => none }
def TxnCopiesWrongFalsely : Prop := txnCopiesRow.holds Try.pinned (OpenSpec.ofChange txnCopiesWrong)

/-- 'rickyardlaw.RowChecks': WHATEVER THE INPUT: true; the input reads as it did. -/
def rowChecksSpec : ChangeSpec := { name := "rowChecks", fn := fun _ => fun
  | [d] => { results := [.lit (.bool true)], args := [d] }
  | _ => none }
def rowChecksRow : OpenClaim := { program := "ytniomgngiiiklaa", sum := "1f536ed6577c7cead69d710a9907afbcc83bb2e2e42d6f4c9a814349d4acfd1d", func := "rickyard/rickyardlaw.RowChecks", spec := "rowChecks", unfollowed := true, recurses := true, apart := false }
def RowChecksSaid : Prop := rowChecksRow.holds Try.pinned (OpenSpec.ofChange rowChecksSpec)

/-- ITS FALSE NEIGHBOUR: 'it returns false'. Refute it at one input. -/
def rowChecksWrong : ChangeSpec := { name := "rowChecks", fn := fun _ => fun
  | [d] => { results := [.lit (.bool false)], args := [d] }
  | _ => none }
def RowChecksWrongFalsely : Prop := rowChecksRow.holds Try.pinned (OpenSpec.ofChange rowChecksWrong)

/-- 'rickyardlaw.RowStatus': WHATEVER THE INPUT: true; the input reads as it did. -/
def rowStatusSpec : ChangeSpec := { name := "rowStatus", fn := fun _ => fun
  | [d1, d2] => { results := [.lit (.bool true)], args := [d1, d2] }
  | _ => none }
def rowStatusRow : OpenClaim := { program := "ytniomgngiiiklaa", sum := "1f536ed6577c7cead69d710a9907afbcc83bb2e2e42d6f4c9a814349d4acfd1d", func := "rickyard/rickyardlaw.RowStatus", spec := "rowStatus", unfollowed := true, recurses := true, apart := false }
def RowStatusSaid : Prop := rowStatusRow.holds Try.pinned (OpenSpec.ofChange rowStatusSpec)

/-- ITS FALSE NEIGHBOUR: 'it returns false'. Refute it at one input. -/
def rowStatusWrong : ChangeSpec := { name := "rowStatus", fn := fun _ => fun
  | [d1, d2] => { results := [.lit (.bool false)], args := [d1, d2] }
  | _ => none }
def RowStatusWrongFalsely : Prop := rowStatusRow.holds Try.pinned (OpenSpec.ofChange rowStatusWrong)

/-- 'rickyardlaw.RowReads': WHATEVER THE INPUT: true; the input reads as it did. -/
def rowReadsSpec : ChangeSpec := { name := "rowReads", fn := fun _ => fun
  | [d1, d2] => { results := [.lit (.bool true)], args := [d1, d2] }
  | _ => none }
def rowReadsRow : OpenClaim := { program := "ytniomgngiiiklaa", sum := "1f536ed6577c7cead69d710a9907afbcc83bb2e2e42d6f4c9a814349d4acfd1d", func := "rickyard/rickyardlaw.RowReads", spec := "rowReads", unfollowed := true, recurses := true, apart := false }
def RowReadsSaid : Prop := rowReadsRow.holds Try.pinned (OpenSpec.ofChange rowReadsSpec)

/-- ITS FALSE NEIGHBOUR: 'it returns false'. Refute it at one input. -/
def rowReadsWrong : ChangeSpec := { name := "rowReads", fn := fun _ => fun
  | [d1, d2] => { results := [.lit (.bool false)], args := [d1, d2] }
  | _ => none }
def RowReadsWrongFalsely : Prop := rowReadsRow.holds Try.pinned (OpenSpec.ofChange rowReadsWrong)

/-- 'rickyardlaw.TxnChecks': WHATEVER THE INPUT: true; the input reads as it did. -/
def txnChecksSpec : ChangeSpec := { name := "txnChecks", fn := fun _ => fun
  | [d] => { results := [.lit (.bool true)], args := [d] }
  | _ => none }
def txnChecksRow : OpenClaim := { program := "ytniomgngiiiklaa", sum := "1f536ed6577c7cead69d710a9907afbcc83bb2e2e42d6f4c9a814349d4acfd1d", func := "rickyard/rickyardlaw.TxnChecks", spec := "txnChecks", unfollowed := true, recurses := true, apart := false }
def TxnChecksSaid : Prop := txnChecksRow.holds Try.pinned (OpenSpec.ofChange txnChecksSpec)

/-- ITS FALSE NEIGHBOUR: 'it returns false'. Refute it at one input. -/
def txnChecksWrong : ChangeSpec := { name := "txnChecks", fn := fun _ => fun
  | [d] => { results := [.lit (.bool false)], args := [d] }
  | _ => none }
def TxnChecksWrongFalsely : Prop := txnChecksRow.holds Try.pinned (OpenSpec.ofChange txnChecksWrong)

/-- 'rickyardlaw.RowLocks': WHATEVER THE INPUT: true; the input reads as it did. -/
def rowLocksSpec : ChangeSpec := { name := "rowLocks", fn := fun _ => fun
  | [d1, d2, d3, d4] => { results := [.lit (.bool true)], args := [d1, d2, d3, d4] }
  | _ => none }
def rowLocksRow : OpenClaim := { program := "ytniomgngiiiklaa", sum := "1f536ed6577c7cead69d710a9907afbcc83bb2e2e42d6f4c9a814349d4acfd1d", func := "rickyard/rickyardlaw.RowLocks", spec := "rowLocks", unfollowed := true, recurses := true, apart := false }
def RowLocksSaid : Prop := rowLocksRow.holds Try.pinned (OpenSpec.ofChange rowLocksSpec)

/-- ITS FALSE NEIGHBOUR: 'it returns false'. Refute it at one input. -/
def rowLocksWrong : ChangeSpec := { name := "rowLocks", fn := fun _ => fun
  | [d1, d2, d3, d4] => { results := [.lit (.bool false)], args := [d1, d2, d3, d4] }
  | _ => none }
def RowLocksWrongFalsely : Prop := rowLocksRow.holds Try.pinned (OpenSpec.ofChange rowLocksWrong)

/-- 'rickyardlaw.RowCommits': WHATEVER THE INPUT: true; the input reads as it did. -/
def rowCommitsSpec : ChangeSpec := { name := "rowCommits", fn := fun _ => fun
  | [d1, d2, d3] => { results := [.lit (.bool true)], args := [d1, d2, d3] }
  | _ => none }
def rowCommitsRow : OpenClaim := { program := "ytniomgngiiiklaa", sum := "1f536ed6577c7cead69d710a9907afbcc83bb2e2e42d6f4c9a814349d4acfd1d", func := "rickyard/rickyardlaw.RowCommits", spec := "rowCommits", inPlace := ["slices.overlaps[rickyard/api.Record]"], unfollowed := true, recurses := true, apart := false }
def RowCommitsSaid : Prop := rowCommitsRow.holds Try.pinned (OpenSpec.ofChange rowCommitsSpec)

/-- ITS FALSE NEIGHBOUR: 'it returns false'. Refute it at one input. -/
def rowCommitsWrong : ChangeSpec := { name := "rowCommits", fn := fun _ => fun
  | [d1, d2, d3] => { results := [.lit (.bool false)], args := [d1, d2, d3] }
  | _ => none }
def RowCommitsWrongFalsely : Prop := rowCommitsRow.holds Try.pinned (OpenSpec.ofChange rowCommitsWrong)

/- THE SECOND FORM. 'bulk': how many values and letters a reading holds, each counted each time it is reached (what is shared counts as often as it is met; a slice's spare places count too). A statement '..UptoSaid' is the law's where the arguments, and the package variables that the reading takes, are together of bulk at most 1048576: NARROWER than '..Said'. Prove '..Said' where nothing that the law and all that it calls make is longer than what came in: it says more and counts as full. Else prove '..UptoSaid'. A law counts once. -/
mutual
def uptoBulk {H : Type} : DataW H → Nat
  | .lit (.string bytes) => bytes.length + 1
  | .lit _ => 1
  | .nil => 1
  | .ptr d => uptoBulk d + 1
  | .slice elems spare => uptoBulkAll elems + uptoBulkAll spare + 1
  | .agg parts => uptoBulkAll parts + 1
  | .iface _ d => uptoBulk d + 1
  | .map entries => uptoBulkEntries entries + 1
  | .held _ => 1
def uptoBulkAll {H : Type} : List (DataW H) → Nat
  | [] => 0
  | d :: r => uptoBulk d + uptoBulkAll r
def uptoBulkEntries {H : Type} : List (Lit × DataW H) → Nat
  | [] => 0
  | x :: r => uptoBulkEntry x + uptoBulkEntries r
def uptoBulkEntry {H : Type} : Lit × DataW H → Nat
  | (.string bytes, d) => bytes.length + uptoBulk d + 1
  | (_, d) => uptoBulk d + 1
 end
def uptoSmall : (H : Type) → List (DataW H) → Bool := fun _ ds => decide (uptoBulkAll ds ≤ 1048576)
def OpenSpec.upto (s : _root_.Go.ChangeSpec) : _root_.Go.OpenSpec := { _root_.Go.OpenSpec.ofChange s with cond := some uptoSmall }

/-- 'rickyardlaw.Names', WHERE WHAT IT READS IS OF BULK AT MOST 1048576: true; the input reads as it did. -/
def namesUptoRow : OpenClaim := { program := "ytniomgngiiiklaa", sum := "1f536ed6577c7cead69d710a9907afbcc83bb2e2e42d6f4c9a814349d4acfd1d", func := "rickyard/rickyardlaw.Names", spec := "names", apart := false, narrowed := true }
def NamesUptoSaid : Prop := namesUptoRow.holds Try.pinned (OpenSpec.upto namesSpec)

/-- 'rickyardlaw.RowCopies', WHERE WHAT IT READS IS OF BULK AT MOST 1048576: true; the input reads as it did. -/
def rowCopiesUptoRow : OpenClaim := { program := "ytniomgngiiiklaa", sum := "1f536ed6577c7cead69d710a9907afbcc83bb2e2e42d6f4c9a814349d4acfd1d", func := "rickyard/rickyardlaw.RowCopies", spec := "rowCopies", apart := false, narrowed := true }
def RowCopiesUptoSaid : Prop := rowCopiesUptoRow.holds Try.pinned (OpenSpec.upto rowCopiesSpec)

/-- 'rickyardlaw.RowKeys', WHERE WHAT IT READS IS OF BULK AT MOST 1048576: true; the input reads as it did. -/
def rowKeysUptoRow : OpenClaim := { program := "ytniomgngiiiklaa", sum := "1f536ed6577c7cead69d710a9907afbcc83bb2e2e42d6f4c9a814349d4acfd1d", func := "rickyard/rickyardlaw.RowKeys", spec := "rowKeys", unfollowed := true, recurses := true, apart := false, narrowed := true }
def RowKeysUptoSaid : Prop := rowKeysUptoRow.holds Try.pinned (OpenSpec.upto rowKeysSpec)

/-- 'rickyardlaw.TxnCopies', WHERE WHAT IT READS IS OF BULK AT MOST 1048576: true; the input reads as it did. -/
def txnCopiesUptoRow : OpenClaim := { program := "ytniomgngiiiklaa", sum := "1f536ed6577c7cead69d710a9907afbcc83bb2e2e42d6f4c9a814349d4acfd1d", func := "rickyard/rickyardlaw.TxnCopies", spec := "txnCopies", apart := false, narrowed := true }
def TxnCopiesUptoSaid : Prop := txnCopiesUptoRow.holds Try.pinned (OpenSpec.upto txnCopiesSpec)

/-- 'rickyardlaw.RowChecks', WHERE WHAT IT READS IS OF BULK AT MOST 1048576: true; the input reads as it did. -/
def rowChecksUptoRow : OpenClaim := { program := "ytniomgngiiiklaa", sum := "1f536ed6577c7cead69d710a9907afbcc83bb2e2e42d6f4c9a814349d4acfd1d", func := "rickyard/rickyardlaw.RowChecks", spec := "rowChecks", unfollowed := true, recurses := true, apart := false, narrowed := true }
def RowChecksUptoSaid : Prop := rowChecksUptoRow.holds Try.pinned (OpenSpec.upto rowChecksSpec)

/-- 'rickyardlaw.RowStatus', WHERE WHAT IT READS IS OF BULK AT MOST 1048576: true; the input reads as it did. -/
def rowStatusUptoRow : OpenClaim := { program := "ytniomgngiiiklaa", sum := "1f536ed6577c7cead69d710a9907afbcc83bb2e2e42d6f4c9a814349d4acfd1d", func := "rickyard/rickyardlaw.RowStatus", spec := "rowStatus", unfollowed := true, recurses := true, apart := false, narrowed := true }
def RowStatusUptoSaid : Prop := rowStatusUptoRow.holds Try.pinned (OpenSpec.upto rowStatusSpec)

/-- 'rickyardlaw.RowReads', WHERE WHAT IT READS IS OF BULK AT MOST 1048576: true; the input reads as it did. -/
def rowReadsUptoRow : OpenClaim := { program := "ytniomgngiiiklaa", sum := "1f536ed6577c7cead69d710a9907afbcc83bb2e2e42d6f4c9a814349d4acfd1d", func := "rickyard/rickyardlaw.RowReads", spec := "rowReads", unfollowed := true, recurses := true, apart := false, narrowed := true }
def RowReadsUptoSaid : Prop := rowReadsUptoRow.holds Try.pinned (OpenSpec.upto rowReadsSpec)

/-- 'rickyardlaw.TxnChecks', WHERE WHAT IT READS IS OF BULK AT MOST 1048576: true; the input reads as it did. -/
def txnChecksUptoRow : OpenClaim := { program := "ytniomgngiiiklaa", sum := "1f536ed6577c7cead69d710a9907afbcc83bb2e2e42d6f4c9a814349d4acfd1d", func := "rickyard/rickyardlaw.TxnChecks", spec := "txnChecks", unfollowed := true, recurses := true, apart := false, narrowed := true }
def TxnChecksUptoSaid : Prop := txnChecksUptoRow.holds Try.pinned (OpenSpec.upto txnChecksSpec)

/-- 'rickyardlaw.RowLocks', WHERE WHAT IT READS IS OF BULK AT MOST 1048576: true; the input reads as it did. -/
def rowLocksUptoRow : OpenClaim := { program := "ytniomgngiiiklaa", sum := "1f536ed6577c7cead69d710a9907afbcc83bb2e2e42d6f4c9a814349d4acfd1d", func := "rickyard/rickyardlaw.RowLocks", spec := "rowLocks", unfollowed := true, recurses := true, apart := false, narrowed := true }
def RowLocksUptoSaid : Prop := rowLocksUptoRow.holds Try.pinned (OpenSpec.upto rowLocksSpec)

/-- 'rickyardlaw.RowCommits', WHERE WHAT IT READS IS OF BULK AT MOST 1048576: true; the input reads as it did. -/
def rowCommitsUptoRow : OpenClaim := { program := "ytniomgngiiiklaa", sum := "1f536ed6577c7cead69d710a9907afbcc83bb2e2e42d6f4c9a814349d4acfd1d", func := "rickyard/rickyardlaw.RowCommits", spec := "rowCommits", inPlace := ["slices.overlaps[rickyard/api.Record]"], unfollowed := true, recurses := true, apart := false, narrowed := true }
def RowCommitsUptoSaid : Prop := rowCommitsUptoRow.holds Try.pinned (OpenSpec.upto rowCommitsSpec)

end Rows
end Go.Proofs.Ytniomgngiiiklaa
