/-
  NARROWER THAN 'FOR EVERY INPUT', by the rows' own cells (each row's printed sentence says how): RowsGood: laid · TopWhole: laid · LocksHold: laid · ReadsStay: laid · UndoneStays: laid · WorldsGood: laid · StepsCommit: laid · CrashesResolve: laid · SecondLate: laid.
  DERIVED. THE GIVEN ROWS OF THIS SEAT. 9 by the template 'for every input the law returns true; each argument reads behind the call as it read before'; 0 by the template 'total and deterministic' (their statements: YtniomgngiiiklabDoorTotals.lean).
  GIVEN WITH THE SEED: the statements are not yours to turn. If you find one false, say at which input.
  Laid BY PROGRAM, IN A SANDBOX (cutbox-rows.mjs): the forced cells as the released guide's own fill.sh prints them over the translation b91f7d4a414a3967… (all of the seat's roots in one cut). By AI agents, Wed Nov 11 2026. No macro, syntax, notation, axiom, sorry.
-/
import Derived.Test.YtniomgngiiiklabDoorChecked
import GoSem.Claim
import GoSem.ClaimJoined
import GoSem.ClaimMapViews
import Derived.JoinedTies
import Derived.KernelRfl
namespace Go.Proofs.YtniomgngiiiklabDoor
/- THE CELL 'sum', in the pinned program and in every row, IS THE sha256 OF THE DUMP (.gsa) THAT YtniomgngiiiklabDoorProg.lean LOADS. Nothing in Lean hashes anything: it is a label: what it is worth is what the hold of that sum in a sandbox is worth. -/
noncomputable def Tryd.pinned : Pinned := { name := "ytniomgngiiiklabdoor", sum := "b91f7d4a414a39670fef40498da119d24d430ffc0fe82d45dcb3f25f63e0b4c4", checked := Tryd.checked }
namespace Rows
def none {H : Type} : Left H := { results := [], args := [] }

/- WHAT THE LISTED PACKAGE-LEVEL VARIABLES READ AS WHEN THE CALL BEGINS. Each datum BY PROGRAM (the guide's laid-datum.mjs) off the statement by which the dump's own 'gosem.cut.vars' lays the variable. In a bare row this is a premise. The card (YtniomgngiiiklabDoorCards.lean) ties it to the program's text. -/
def laid_math_bits_deBruijn32tab {H : Type} : DataW H := .agg [.lit (.int .u8 0), .lit (.int .u8 1), .lit (.int .u8 28), .lit (.int .u8 2), .lit (.int .u8 29), .lit (.int .u8 14), .lit (.int .u8 24), .lit (.int .u8 3), .lit (.int .u8 30), .lit (.int .u8 22), .lit (.int .u8 20), .lit (.int .u8 15), .lit (.int .u8 25), .lit (.int .u8 17), .lit (.int .u8 4), .lit (.int .u8 8), .lit (.int .u8 31), .lit (.int .u8 27), .lit (.int .u8 13), .lit (.int .u8 23), .lit (.int .u8 21), .lit (.int .u8 19), .lit (.int .u8 16), .lit (.int .u8 7), .lit (.int .u8 26), .lit (.int .u8 12), .lit (.int .u8 18), .lit (.int .u8 6), .lit (.int .u8 11), .lit (.int .u8 5), .lit (.int .u8 10), .lit (.int .u8 9)]
def laid_math_bits_deBruijn64tab {H : Type} : DataW H := .agg [.lit (.int .u8 0), .lit (.int .u8 1), .lit (.int .u8 56), .lit (.int .u8 2), .lit (.int .u8 57), .lit (.int .u8 49), .lit (.int .u8 28), .lit (.int .u8 3), .lit (.int .u8 61), .lit (.int .u8 58), .lit (.int .u8 42), .lit (.int .u8 50), .lit (.int .u8 38), .lit (.int .u8 29), .lit (.int .u8 17), .lit (.int .u8 4), .lit (.int .u8 62), .lit (.int .u8 47), .lit (.int .u8 59), .lit (.int .u8 36), .lit (.int .u8 45), .lit (.int .u8 43), .lit (.int .u8 51), .lit (.int .u8 22), .lit (.int .u8 53), .lit (.int .u8 39), .lit (.int .u8 33), .lit (.int .u8 30), .lit (.int .u8 24), .lit (.int .u8 18), .lit (.int .u8 12), .lit (.int .u8 5), .lit (.int .u8 63), .lit (.int .u8 55), .lit (.int .u8 48), .lit (.int .u8 27), .lit (.int .u8 60), .lit (.int .u8 41), .lit (.int .u8 37), .lit (.int .u8 16), .lit (.int .u8 46), .lit (.int .u8 35), .lit (.int .u8 44), .lit (.int .u8 21), .lit (.int .u8 52), .lit (.int .u8 32), .lit (.int .u8 23), .lit (.int .u8 11), .lit (.int .u8 54), .lit (.int .u8 26), .lit (.int .u8 40), .lit (.int .u8 15), .lit (.int .u8 34), .lit (.int .u8 20), .lit (.int .u8 31), .lit (.int .u8 10), .lit (.int .u8 25), .lit (.int .u8 14), .lit (.int .u8 19), .lit (.int .u8 9), .lit (.int .u8 13), .lit (.int .u8 8), .lit (.int .u8 7), .lit (.int .u8 6)]
def laid_internal_strconv_uint64pow10 {H : Type} : DataW H := .agg [.lit (.int .u64 1), .lit (.int .u64 10), .lit (.int .u64 100), .lit (.int .u64 1000), .lit (.int .u64 10000), .lit (.int .u64 100000), .lit (.int .u64 1000000), .lit (.int .u64 10000000), .lit (.int .u64 100000000), .lit (.int .u64 1000000000), .lit (.int .u64 10000000000), .lit (.int .u64 100000000000), .lit (.int .u64 1000000000000), .lit (.int .u64 10000000000000), .lit (.int .u64 100000000000000), .lit (.int .u64 1000000000000000), .lit (.int .u64 10000000000000000), .lit (.int .u64 100000000000000000), .lit (.int .u64 1000000000000000000), .lit (.int .u64 10000000000000000000)]

/-- 'rickyardkeep.RowsGood': WHATEVER THE INPUT: true; the input reads as it did. -/
def rowsGoodSpec : ChangeSpec := { name := "rowsGood", fn := fun _ => fun
  | [d] => { results := [.lit (.bool true)], args := [d] }
  | _ => none }
def rowsGoodRow : OpenClaim := { program := "ytniomgngiiiklabdoor", sum := "b91f7d4a414a39670fef40498da119d24d430ffc0fe82d45dcb3f25f63e0b4c4", func := "rickyard/rickyardkeep.RowsGood", spec := "rowsGood", inPlace := ["slices.overlaps[rickyard/api.Record]"], unfollowed := true, recurses := true, named := ["internal/strconv.uint64pow10", "math/bits.deBruijn32tab", "math/bits.deBruijn64tab"], apart := false, laid := [("math/bits.deBruijn32tab", laid_math_bits_deBruijn32tab), ("math/bits.deBruijn64tab", laid_math_bits_deBruijn64tab), ("internal/strconv.uint64pow10", laid_internal_strconv_uint64pow10)] }
def RowsGoodSaid : Prop := rowsGoodRow.holds Tryd.pinned (OpenSpec.ofChange rowsGoodSpec)

/-- ITS FALSE NEIGHBOUR: 'it returns false'. Refute it at one input. -/
def rowsGoodWrong : ChangeSpec := { name := "rowsGood", fn := fun _ => fun
  | [d] => { results := [.lit (.bool false)], args := [d] }
  | _ => none }
def RowsGoodWrongFalsely : Prop := rowsGoodRow.holds Tryd.pinned (OpenSpec.ofChange rowsGoodWrong)

/-- 'rickyardtop.TopWhole': WHATEVER THE INPUT: true; the input reads as it did. -/
def topWholeSpec : ChangeSpec := { name := "topWhole", fn := fun _ => fun
  | [d] => { results := [.lit (.bool true)], args := [d] }
  | _ => none }
def topWholeRow : OpenClaim := { program := "ytniomgngiiiklabdoor", sum := "b91f7d4a414a39670fef40498da119d24d430ffc0fe82d45dcb3f25f63e0b4c4", func := "rickyard/rickyardtop.TopWhole", spec := "topWhole", inPlace := ["internal/bytealg.abigen_runtime_cmpstring", "slices.overlaps[rickyard/api.Write]", "slices.overlaps[rickyard/api.Row]", "slices.overlaps[rickyard/api.Record]"], unfollowed := true, recurses := true, named := ["internal/strconv.uint64pow10", "math/bits.deBruijn32tab", "math/bits.deBruijn64tab"], apart := false, laid := [("math/bits.deBruijn32tab", laid_math_bits_deBruijn32tab), ("math/bits.deBruijn64tab", laid_math_bits_deBruijn64tab), ("internal/strconv.uint64pow10", laid_internal_strconv_uint64pow10)] }
def TopWholeSaid : Prop := topWholeRow.holds Tryd.pinned (OpenSpec.ofChange topWholeSpec)

/-- ITS FALSE NEIGHBOUR: 'it returns false'. Refute it at one input. -/
def topWholeWrong : ChangeSpec := { name := "topWhole", fn := fun _ => fun
  | [d] => { results := [.lit (.bool false)], args := [d] }
  | _ => none }
def TopWholeWrongFalsely : Prop := topWholeRow.holds Tryd.pinned (OpenSpec.ofChange topWholeWrong)

/-- 'rickyardkeep.LocksHold': WHATEVER THE INPUT: true; the input reads as it did. -/
def locksHoldSpec : ChangeSpec := { name := "locksHold", fn := fun _ => fun
  | [d1, d2, d3] => { results := [.lit (.bool true)], args := [d1, d2, d3] }
  | _ => none }
def locksHoldRow : OpenClaim := { program := "ytniomgngiiiklabdoor", sum := "b91f7d4a414a39670fef40498da119d24d430ffc0fe82d45dcb3f25f63e0b4c4", func := "rickyard/rickyardkeep.LocksHold", spec := "locksHold", inPlace := ["slices.overlaps[rickyard/api.Record]"], unfollowed := true, recurses := true, named := ["internal/strconv.uint64pow10", "math/bits.deBruijn32tab", "math/bits.deBruijn64tab"], apart := false, laid := [("math/bits.deBruijn32tab", laid_math_bits_deBruijn32tab), ("math/bits.deBruijn64tab", laid_math_bits_deBruijn64tab), ("internal/strconv.uint64pow10", laid_internal_strconv_uint64pow10)] }
def LocksHoldSaid : Prop := locksHoldRow.holds Tryd.pinned (OpenSpec.ofChange locksHoldSpec)

/-- ITS FALSE NEIGHBOUR: 'it returns false'. Refute it at one input. -/
def locksHoldWrong : ChangeSpec := { name := "locksHold", fn := fun _ => fun
  | [d1, d2, d3] => { results := [.lit (.bool false)], args := [d1, d2, d3] }
  | _ => none }
def LocksHoldWrongFalsely : Prop := locksHoldRow.holds Tryd.pinned (OpenSpec.ofChange locksHoldWrong)

/-- 'rickyardkeep.ReadsStay': WHATEVER THE INPUT: true; the input reads as it did. -/
def readsStaySpec : ChangeSpec := { name := "readsStay", fn := fun _ => fun
  | [d1, d2, d3] => { results := [.lit (.bool true)], args := [d1, d2, d3] }
  | _ => none }
def readsStayRow : OpenClaim := { program := "ytniomgngiiiklabdoor", sum := "b91f7d4a414a39670fef40498da119d24d430ffc0fe82d45dcb3f25f63e0b4c4", func := "rickyard/rickyardkeep.ReadsStay", spec := "readsStay", inPlace := ["slices.overlaps[rickyard/api.Record]"], unfollowed := true, recurses := true, named := ["internal/strconv.uint64pow10", "math/bits.deBruijn32tab", "math/bits.deBruijn64tab"], apart := false, laid := [("math/bits.deBruijn32tab", laid_math_bits_deBruijn32tab), ("math/bits.deBruijn64tab", laid_math_bits_deBruijn64tab), ("internal/strconv.uint64pow10", laid_internal_strconv_uint64pow10)] }
def ReadsStaySaid : Prop := readsStayRow.holds Tryd.pinned (OpenSpec.ofChange readsStaySpec)

/-- ITS FALSE NEIGHBOUR: 'it returns false'. Refute it at one input. -/
def readsStayWrong : ChangeSpec := { name := "readsStay", fn := fun _ => fun
  | [d1, d2, d3] => { results := [.lit (.bool false)], args := [d1, d2, d3] }
  | _ => none }
def ReadsStayWrongFalsely : Prop := readsStayRow.holds Tryd.pinned (OpenSpec.ofChange readsStayWrong)

/-- 'rickyardkeep.UndoneStays': WHATEVER THE INPUT: true; the input reads as it did. -/
def undoneStaysSpec : ChangeSpec := { name := "undoneStays", fn := fun _ => fun
  | [d1, d2, d3] => { results := [.lit (.bool true)], args := [d1, d2, d3] }
  | _ => none }
def undoneStaysRow : OpenClaim := { program := "ytniomgngiiiklabdoor", sum := "b91f7d4a414a39670fef40498da119d24d430ffc0fe82d45dcb3f25f63e0b4c4", func := "rickyard/rickyardkeep.UndoneStays", spec := "undoneStays", inPlace := ["slices.overlaps[rickyard/api.Record]"], unfollowed := true, recurses := true, named := ["internal/strconv.uint64pow10", "math/bits.deBruijn32tab", "math/bits.deBruijn64tab"], apart := false, laid := [("math/bits.deBruijn32tab", laid_math_bits_deBruijn32tab), ("math/bits.deBruijn64tab", laid_math_bits_deBruijn64tab), ("internal/strconv.uint64pow10", laid_internal_strconv_uint64pow10)] }
def UndoneStaysSaid : Prop := undoneStaysRow.holds Tryd.pinned (OpenSpec.ofChange undoneStaysSpec)

/-- ITS FALSE NEIGHBOUR: 'it returns false'. Refute it at one input. -/
def undoneStaysWrong : ChangeSpec := { name := "undoneStays", fn := fun _ => fun
  | [d1, d2, d3] => { results := [.lit (.bool false)], args := [d1, d2, d3] }
  | _ => none }
def UndoneStaysWrongFalsely : Prop := undoneStaysRow.holds Tryd.pinned (OpenSpec.ofChange undoneStaysWrong)

/-- 'rickyardkeep.WorldsGood': WHATEVER THE INPUT: true; the input reads as it did. -/
def worldsGoodSpec : ChangeSpec := { name := "worldsGood", fn := fun _ => fun
  | [d1, d2, d3] => { results := [.lit (.bool true)], args := [d1, d2, d3] }
  | _ => none }
def worldsGoodRow : OpenClaim := { program := "ytniomgngiiiklabdoor", sum := "b91f7d4a414a39670fef40498da119d24d430ffc0fe82d45dcb3f25f63e0b4c4", func := "rickyard/rickyardkeep.WorldsGood", spec := "worldsGood", inPlace := ["internal/bytealg.abigen_runtime_cmpstring", "slices.overlaps[rickyard/api.Write]", "slices.overlaps[rickyard/api.Row]", "slices.overlaps[rickyard/api.Record]"], unfollowed := true, recurses := true, named := ["internal/strconv.uint64pow10", "math/bits.deBruijn32tab", "math/bits.deBruijn64tab"], apart := false, laid := [("math/bits.deBruijn32tab", laid_math_bits_deBruijn32tab), ("math/bits.deBruijn64tab", laid_math_bits_deBruijn64tab), ("internal/strconv.uint64pow10", laid_internal_strconv_uint64pow10)] }
def WorldsGoodSaid : Prop := worldsGoodRow.holds Tryd.pinned (OpenSpec.ofChange worldsGoodSpec)

/-- ITS FALSE NEIGHBOUR: 'it returns false'. Refute it at one input. -/
def worldsGoodWrong : ChangeSpec := { name := "worldsGood", fn := fun _ => fun
  | [d1, d2, d3] => { results := [.lit (.bool false)], args := [d1, d2, d3] }
  | _ => none }
def WorldsGoodWrongFalsely : Prop := worldsGoodRow.holds Tryd.pinned (OpenSpec.ofChange worldsGoodWrong)

/-- 'rickyardkeep.StepsCommit': WHATEVER THE INPUT: true; the input reads as it did. -/
def stepsCommitSpec : ChangeSpec := { name := "stepsCommit", fn := fun _ => fun
  | [d] => { results := [.lit (.bool true)], args := [d] }
  | _ => none }
def stepsCommitRow : OpenClaim := { program := "ytniomgngiiiklabdoor", sum := "b91f7d4a414a39670fef40498da119d24d430ffc0fe82d45dcb3f25f63e0b4c4", func := "rickyard/rickyardkeep.StepsCommit", spec := "stepsCommit", inPlace := ["internal/bytealg.abigen_runtime_cmpstring", "slices.overlaps[rickyard/api.Write]", "slices.overlaps[rickyard/api.Row]", "slices.overlaps[rickyard/api.Record]"], unfollowed := true, recurses := true, named := ["internal/strconv.uint64pow10", "math/bits.deBruijn32tab", "math/bits.deBruijn64tab"], apart := false, laid := [("math/bits.deBruijn32tab", laid_math_bits_deBruijn32tab), ("math/bits.deBruijn64tab", laid_math_bits_deBruijn64tab), ("internal/strconv.uint64pow10", laid_internal_strconv_uint64pow10)] }
def StepsCommitSaid : Prop := stepsCommitRow.holds Tryd.pinned (OpenSpec.ofChange stepsCommitSpec)

/-- ITS FALSE NEIGHBOUR: 'it returns false'. Refute it at one input. -/
def stepsCommitWrong : ChangeSpec := { name := "stepsCommit", fn := fun _ => fun
  | [d] => { results := [.lit (.bool false)], args := [d] }
  | _ => none }
def StepsCommitWrongFalsely : Prop := stepsCommitRow.holds Tryd.pinned (OpenSpec.ofChange stepsCommitWrong)

/-- 'rickyardkeep.CrashesResolve': WHATEVER THE INPUT: true; the input reads as it did. -/
def crashesResolveSpec : ChangeSpec := { name := "crashesResolve", fn := fun _ => fun
  | [d1, d2] => { results := [.lit (.bool true)], args := [d1, d2] }
  | _ => none }
def crashesResolveRow : OpenClaim := { program := "ytniomgngiiiklabdoor", sum := "b91f7d4a414a39670fef40498da119d24d430ffc0fe82d45dcb3f25f63e0b4c4", func := "rickyard/rickyardkeep.CrashesResolve", spec := "crashesResolve", inPlace := ["internal/bytealg.abigen_runtime_cmpstring", "slices.overlaps[rickyard/api.Write]", "slices.overlaps[rickyard/api.Row]", "slices.overlaps[rickyard/api.Record]"], unfollowed := true, recurses := true, named := ["internal/strconv.uint64pow10", "math/bits.deBruijn32tab", "math/bits.deBruijn64tab"], apart := false, laid := [("math/bits.deBruijn32tab", laid_math_bits_deBruijn32tab), ("math/bits.deBruijn64tab", laid_math_bits_deBruijn64tab), ("internal/strconv.uint64pow10", laid_internal_strconv_uint64pow10)] }
def CrashesResolveSaid : Prop := crashesResolveRow.holds Tryd.pinned (OpenSpec.ofChange crashesResolveSpec)

/-- ITS FALSE NEIGHBOUR: 'it returns false'. Refute it at one input. -/
def crashesResolveWrong : ChangeSpec := { name := "crashesResolve", fn := fun _ => fun
  | [d1, d2] => { results := [.lit (.bool false)], args := [d1, d2] }
  | _ => none }
def CrashesResolveWrongFalsely : Prop := crashesResolveRow.holds Tryd.pinned (OpenSpec.ofChange crashesResolveWrong)

/-- 'rickyardkeep.SecondLate': WHATEVER THE INPUT: true; the input reads as it did. -/
def secondLateSpec : ChangeSpec := { name := "secondLate", fn := fun _ => fun
  | [d] => { results := [.lit (.bool true)], args := [d] }
  | _ => none }
def secondLateRow : OpenClaim := { program := "ytniomgngiiiklabdoor", sum := "b91f7d4a414a39670fef40498da119d24d430ffc0fe82d45dcb3f25f63e0b4c4", func := "rickyard/rickyardkeep.SecondLate", spec := "secondLate", inPlace := ["internal/bytealg.abigen_runtime_cmpstring", "slices.overlaps[rickyard/api.Write]", "slices.overlaps[rickyard/api.Row]", "slices.overlaps[rickyard/api.Record]"], unfollowed := true, recurses := true, named := ["internal/strconv.uint64pow10", "math/bits.deBruijn32tab", "math/bits.deBruijn64tab"], apart := false, laid := [("math/bits.deBruijn32tab", laid_math_bits_deBruijn32tab), ("math/bits.deBruijn64tab", laid_math_bits_deBruijn64tab), ("internal/strconv.uint64pow10", laid_internal_strconv_uint64pow10)] }
def SecondLateSaid : Prop := secondLateRow.holds Tryd.pinned (OpenSpec.ofChange secondLateSpec)

/-- ITS FALSE NEIGHBOUR: 'it returns false'. Refute it at one input. -/
def secondLateWrong : ChangeSpec := { name := "secondLate", fn := fun _ => fun
  | [d] => { results := [.lit (.bool false)], args := [d] }
  | _ => none }
def SecondLateWrongFalsely : Prop := secondLateRow.holds Tryd.pinned (OpenSpec.ofChange secondLateWrong)

/- THE SECOND FORM. 'bulk': how many values and letters a reading holds, each counted each time it is reached (what is shared counts as often as it is met; a slice's spare places count too). A statement '..UptoSaid' is the law's where the arguments, and the package variables that the reading takes, are together of bulk at most 1048576: NARROWER than '..Said'. Prove '..Said' where nothing that the law and all that it calls make is longer than what came in: it says more and counts as full. Else prove '..UptoSaid'. A law counts once. -/
mutual
def uptoBulk {H : Type} : DataW H → Nat
  | .lit (.string bytes) => bytes.length + 1
  | .lit _ => 1
  | .nil => 1
  | .ptr d => uptoBulk d + 1
  | .slice elems spare => uptoBulkAll elems + uptoBulkAll spare + 1
  | .agg parts => uptoBulkAll parts + 1
  | .iface _ d => uptoBulk d + 1
  | .map entries => uptoBulkEntries entries + 1
  | .held _ => 1
def uptoBulkAll {H : Type} : List (DataW H) → Nat
  | [] => 0
  | d :: r => uptoBulk d + uptoBulkAll r
def uptoBulkEntries {H : Type} : List (Lit × DataW H) → Nat
  | [] => 0
  | x :: r => uptoBulkEntry x + uptoBulkEntries r
def uptoBulkEntry {H : Type} : Lit × DataW H → Nat
  | (.string bytes, d) => bytes.length + uptoBulk d + 1
  | (_, d) => uptoBulk d + 1
 end
def uptoSmall : (H : Type) → List (DataW H) → Bool := fun _ ds => decide (uptoBulkAll ds ≤ 1048576)
def OpenSpec.upto (s : _root_.Go.ChangeSpec) : _root_.Go.OpenSpec := { _root_.Go.OpenSpec.ofChange s with cond := some uptoSmall }

/-- 'rickyardkeep.RowsGood', WHERE WHAT IT READS IS OF BULK AT MOST 1048576: true; the input reads as it did. -/
def rowsGoodUptoRow : OpenClaim := { program := "ytniomgngiiiklabdoor", sum := "b91f7d4a414a39670fef40498da119d24d430ffc0fe82d45dcb3f25f63e0b4c4", func := "rickyard/rickyardkeep.RowsGood", spec := "rowsGood", inPlace := ["slices.overlaps[rickyard/api.Record]"], unfollowed := true, recurses := true, named := ["internal/strconv.uint64pow10", "math/bits.deBruijn32tab", "math/bits.deBruijn64tab"], apart := false, laid := [("math/bits.deBruijn32tab", laid_math_bits_deBruijn32tab), ("math/bits.deBruijn64tab", laid_math_bits_deBruijn64tab), ("internal/strconv.uint64pow10", laid_internal_strconv_uint64pow10)], narrowed := true }
def RowsGoodUptoSaid : Prop := rowsGoodUptoRow.holds Tryd.pinned (OpenSpec.upto rowsGoodSpec)

/-- 'rickyardtop.TopWhole', WHERE WHAT IT READS IS OF BULK AT MOST 1048576: true; the input reads as it did. -/
def topWholeUptoRow : OpenClaim := { program := "ytniomgngiiiklabdoor", sum := "b91f7d4a414a39670fef40498da119d24d430ffc0fe82d45dcb3f25f63e0b4c4", func := "rickyard/rickyardtop.TopWhole", spec := "topWhole", inPlace := ["internal/bytealg.abigen_runtime_cmpstring", "slices.overlaps[rickyard/api.Write]", "slices.overlaps[rickyard/api.Row]", "slices.overlaps[rickyard/api.Record]"], unfollowed := true, recurses := true, named := ["internal/strconv.uint64pow10", "math/bits.deBruijn32tab", "math/bits.deBruijn64tab"], apart := false, laid := [("math/bits.deBruijn32tab", laid_math_bits_deBruijn32tab), ("math/bits.deBruijn64tab", laid_math_bits_deBruijn64tab), ("internal/strconv.uint64pow10", laid_internal_strconv_uint64pow10)], narrowed := true }
def TopWholeUptoSaid : Prop := topWholeUptoRow.holds Tryd.pinned (OpenSpec.upto topWholeSpec)

/-- 'rickyardkeep.LocksHold', WHERE WHAT IT READS IS OF BULK AT MOST 1048576: true; the input reads as it did. -/
def locksHoldUptoRow : OpenClaim := { program := "ytniomgngiiiklabdoor", sum := "b91f7d4a414a39670fef40498da119d24d430ffc0fe82d45dcb3f25f63e0b4c4", func := "rickyard/rickyardkeep.LocksHold", spec := "locksHold", inPlace := ["slices.overlaps[rickyard/api.Record]"], unfollowed := true, recurses := true, named := ["internal/strconv.uint64pow10", "math/bits.deBruijn32tab", "math/bits.deBruijn64tab"], apart := false, laid := [("math/bits.deBruijn32tab", laid_math_bits_deBruijn32tab), ("math/bits.deBruijn64tab", laid_math_bits_deBruijn64tab), ("internal/strconv.uint64pow10", laid_internal_strconv_uint64pow10)], narrowed := true }
def LocksHoldUptoSaid : Prop := locksHoldUptoRow.holds Tryd.pinned (OpenSpec.upto locksHoldSpec)

/-- 'rickyardkeep.ReadsStay', WHERE WHAT IT READS IS OF BULK AT MOST 1048576: true; the input reads as it did. -/
def readsStayUptoRow : OpenClaim := { program := "ytniomgngiiiklabdoor", sum := "b91f7d4a414a39670fef40498da119d24d430ffc0fe82d45dcb3f25f63e0b4c4", func := "rickyard/rickyardkeep.ReadsStay", spec := "readsStay", inPlace := ["slices.overlaps[rickyard/api.Record]"], unfollowed := true, recurses := true, named := ["internal/strconv.uint64pow10", "math/bits.deBruijn32tab", "math/bits.deBruijn64tab"], apart := false, laid := [("math/bits.deBruijn32tab", laid_math_bits_deBruijn32tab), ("math/bits.deBruijn64tab", laid_math_bits_deBruijn64tab), ("internal/strconv.uint64pow10", laid_internal_strconv_uint64pow10)], narrowed := true }
def ReadsStayUptoSaid : Prop := readsStayUptoRow.holds Tryd.pinned (OpenSpec.upto readsStaySpec)

/-- 'rickyardkeep.UndoneStays', WHERE WHAT IT READS IS OF BULK AT MOST 1048576: true; the input reads as it did. -/
def undoneStaysUptoRow : OpenClaim := { program := "ytniomgngiiiklabdoor", sum := "b91f7d4a414a39670fef40498da119d24d430ffc0fe82d45dcb3f25f63e0b4c4", func := "rickyard/rickyardkeep.UndoneStays", spec := "undoneStays", inPlace := ["slices.overlaps[rickyard/api.Record]"], unfollowed := true, recurses := true, named := ["internal/strconv.uint64pow10", "math/bits.deBruijn32tab", "math/bits.deBruijn64tab"], apart := false, laid := [("math/bits.deBruijn32tab", laid_math_bits_deBruijn32tab), ("math/bits.deBruijn64tab", laid_math_bits_deBruijn64tab), ("internal/strconv.uint64pow10", laid_internal_strconv_uint64pow10)], narrowed := true }
def UndoneStaysUptoSaid : Prop := undoneStaysUptoRow.holds Tryd.pinned (OpenSpec.upto undoneStaysSpec)

/-- 'rickyardkeep.WorldsGood', WHERE WHAT IT READS IS OF BULK AT MOST 1048576: true; the input reads as it did. -/
def worldsGoodUptoRow : OpenClaim := { program := "ytniomgngiiiklabdoor", sum := "b91f7d4a414a39670fef40498da119d24d430ffc0fe82d45dcb3f25f63e0b4c4", func := "rickyard/rickyardkeep.WorldsGood", spec := "worldsGood", inPlace := ["internal/bytealg.abigen_runtime_cmpstring", "slices.overlaps[rickyard/api.Write]", "slices.overlaps[rickyard/api.Row]", "slices.overlaps[rickyard/api.Record]"], unfollowed := true, recurses := true, named := ["internal/strconv.uint64pow10", "math/bits.deBruijn32tab", "math/bits.deBruijn64tab"], apart := false, laid := [("math/bits.deBruijn32tab", laid_math_bits_deBruijn32tab), ("math/bits.deBruijn64tab", laid_math_bits_deBruijn64tab), ("internal/strconv.uint64pow10", laid_internal_strconv_uint64pow10)], narrowed := true }
def WorldsGoodUptoSaid : Prop := worldsGoodUptoRow.holds Tryd.pinned (OpenSpec.upto worldsGoodSpec)

/-- 'rickyardkeep.StepsCommit', WHERE WHAT IT READS IS OF BULK AT MOST 1048576: true; the input reads as it did. -/
def stepsCommitUptoRow : OpenClaim := { program := "ytniomgngiiiklabdoor", sum := "b91f7d4a414a39670fef40498da119d24d430ffc0fe82d45dcb3f25f63e0b4c4", func := "rickyard/rickyardkeep.StepsCommit", spec := "stepsCommit", inPlace := ["internal/bytealg.abigen_runtime_cmpstring", "slices.overlaps[rickyard/api.Write]", "slices.overlaps[rickyard/api.Row]", "slices.overlaps[rickyard/api.Record]"], unfollowed := true, recurses := true, named := ["internal/strconv.uint64pow10", "math/bits.deBruijn32tab", "math/bits.deBruijn64tab"], apart := false, laid := [("math/bits.deBruijn32tab", laid_math_bits_deBruijn32tab), ("math/bits.deBruijn64tab", laid_math_bits_deBruijn64tab), ("internal/strconv.uint64pow10", laid_internal_strconv_uint64pow10)], narrowed := true }
def StepsCommitUptoSaid : Prop := stepsCommitUptoRow.holds Tryd.pinned (OpenSpec.upto stepsCommitSpec)

/-- 'rickyardkeep.CrashesResolve', WHERE WHAT IT READS IS OF BULK AT MOST 1048576: true; the input reads as it did. -/
def crashesResolveUptoRow : OpenClaim := { program := "ytniomgngiiiklabdoor", sum := "b91f7d4a414a39670fef40498da119d24d430ffc0fe82d45dcb3f25f63e0b4c4", func := "rickyard/rickyardkeep.CrashesResolve", spec := "crashesResolve", inPlace := ["internal/bytealg.abigen_runtime_cmpstring", "slices.overlaps[rickyard/api.Write]", "slices.overlaps[rickyard/api.Row]", "slices.overlaps[rickyard/api.Record]"], unfollowed := true, recurses := true, named := ["internal/strconv.uint64pow10", "math/bits.deBruijn32tab", "math/bits.deBruijn64tab"], apart := false, laid := [("math/bits.deBruijn32tab", laid_math_bits_deBruijn32tab), ("math/bits.deBruijn64tab", laid_math_bits_deBruijn64tab), ("internal/strconv.uint64pow10", laid_internal_strconv_uint64pow10)], narrowed := true }
def CrashesResolveUptoSaid : Prop := crashesResolveUptoRow.holds Tryd.pinned (OpenSpec.upto crashesResolveSpec)

/-- 'rickyardkeep.SecondLate', WHERE WHAT IT READS IS OF BULK AT MOST 1048576: true; the input reads as it did. -/
def secondLateUptoRow : OpenClaim := { program := "ytniomgngiiiklabdoor", sum := "b91f7d4a414a39670fef40498da119d24d430ffc0fe82d45dcb3f25f63e0b4c4", func := "rickyard/rickyardkeep.SecondLate", spec := "secondLate", inPlace := ["internal/bytealg.abigen_runtime_cmpstring", "slices.overlaps[rickyard/api.Write]", "slices.overlaps[rickyard/api.Row]", "slices.overlaps[rickyard/api.Record]"], unfollowed := true, recurses := true, named := ["internal/strconv.uint64pow10", "math/bits.deBruijn32tab", "math/bits.deBruijn64tab"], apart := false, laid := [("math/bits.deBruijn32tab", laid_math_bits_deBruijn32tab), ("math/bits.deBruijn64tab", laid_math_bits_deBruijn64tab), ("internal/strconv.uint64pow10", laid_internal_strconv_uint64pow10)], narrowed := true }
def SecondLateUptoSaid : Prop := secondLateUptoRow.holds Tryd.pinned (OpenSpec.upto secondLateSpec)

end Rows
end Go.Proofs.YtniomgngiiiklabDoor
