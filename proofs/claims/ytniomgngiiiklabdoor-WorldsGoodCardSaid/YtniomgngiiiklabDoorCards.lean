/-
  DERIVED. GIVEN WITH THE SEED: THE CARDS: each row of YtniomgngiiiklabDoorRows.lean that lists a variable, with what it lists TIED to the program's text (the seventh form; the later family's looks); each row that meets fmt, with fmt's text TOLD by the authors' own Lean function (tested against real Go, not proved from fmt's source: count such statements apart). THE CARD IS WHAT COUNTS. Prove the row's statement (the work); the ties are given (YtniomgngiiiklabDoorTie.lean); close each card by the builder's one call (the guide's Derived/Test/ToyasCard.lean, 'card_holds'). Laid BY PROGRAM, IN A SANDBOX (cutbox-door.mjs). By AI agents, Wed Nov 11 2026. No macro, syntax, notation, axiom, sorry.
-/
import Derived.Test.YtniomgngiiiklabDoorRows
import GoSem.ClaimSeven
namespace Go.Proofs.YtniomgngiiiklabDoor
namespace Rows

/-- THE TIED CARD OF 'rickyardkeep.RowsGood'. -/
def rowsGoodCard : Claim7 := { stood := { row := rowsGoodRow, standIns := [], harness := (true, "e44c9e840b0f46bef65dfb98f0a7588797efde6505a8a41f96fe595c4c41513d"), looks := false }, kinds := [], alts := [], laidByText := true, laidKinds := [.data, .data, .data], laidTests := true, laidLooks := .later }
def RowsGoodCardSaid : Prop := Claim7.holds Tryd.pinned (.plain (OpenSpec.ofChange rowsGoodSpec)) rowsGoodCard

/-- THE TIED CARD OF 'rickyardtop.TopWhole'. -/
def topWholeCard : Claim7 := { stood := { row := topWholeRow, standIns := [], harness := (true, "e44c9e840b0f46bef65dfb98f0a7588797efde6505a8a41f96fe595c4c41513d"), looks := false }, kinds := [], alts := [], laidByText := true, laidKinds := [.data, .data, .data], laidTests := true, laidLooks := .later }
def TopWholeCardSaid : Prop := Claim7.holds Tryd.pinned (.plain (OpenSpec.ofChange topWholeSpec)) topWholeCard

/-- THE TIED CARD OF 'rickyardkeep.LocksHold'. -/
def locksHoldCard : Claim7 := { stood := { row := locksHoldRow, standIns := [], harness := (true, "e44c9e840b0f46bef65dfb98f0a7588797efde6505a8a41f96fe595c4c41513d"), looks := false }, kinds := [], alts := [], laidByText := true, laidKinds := [.data, .data, .data], laidTests := true, laidLooks := .later }
def LocksHoldCardSaid : Prop := Claim7.holds Tryd.pinned (.plain (OpenSpec.ofChange locksHoldSpec)) locksHoldCard

/-- THE TIED CARD OF 'rickyardkeep.ReadsStay'. -/
def readsStayCard : Claim7 := { stood := { row := readsStayRow, standIns := [], harness := (true, "e44c9e840b0f46bef65dfb98f0a7588797efde6505a8a41f96fe595c4c41513d"), looks := false }, kinds := [], alts := [], laidByText := true, laidKinds := [.data, .data, .data], laidTests := true, laidLooks := .later }
def ReadsStayCardSaid : Prop := Claim7.holds Tryd.pinned (.plain (OpenSpec.ofChange readsStaySpec)) readsStayCard

/-- THE TIED CARD OF 'rickyardkeep.UndoneStays'. -/
def undoneStaysCard : Claim7 := { stood := { row := undoneStaysRow, standIns := [], harness := (true, "e44c9e840b0f46bef65dfb98f0a7588797efde6505a8a41f96fe595c4c41513d"), looks := false }, kinds := [], alts := [], laidByText := true, laidKinds := [.data, .data, .data], laidTests := true, laidLooks := .later }
def UndoneStaysCardSaid : Prop := Claim7.holds Tryd.pinned (.plain (OpenSpec.ofChange undoneStaysSpec)) undoneStaysCard

/-- THE TIED CARD OF 'rickyardkeep.WorldsGood'. -/
def worldsGoodCard : Claim7 := { stood := { row := worldsGoodRow, standIns := [], harness := (true, "e44c9e840b0f46bef65dfb98f0a7588797efde6505a8a41f96fe595c4c41513d"), looks := false }, kinds := [], alts := [], laidByText := true, laidKinds := [.data, .data, .data], laidTests := true, laidLooks := .later }
def WorldsGoodCardSaid : Prop := Claim7.holds Tryd.pinned (.plain (OpenSpec.ofChange worldsGoodSpec)) worldsGoodCard

/-- THE TIED CARD OF 'rickyardkeep.StepsCommit'. -/
def stepsCommitCard : Claim7 := { stood := { row := stepsCommitRow, standIns := [], harness := (true, "e44c9e840b0f46bef65dfb98f0a7588797efde6505a8a41f96fe595c4c41513d"), looks := false }, kinds := [], alts := [], laidByText := true, laidKinds := [.data, .data, .data], laidTests := true, laidLooks := .later }
def StepsCommitCardSaid : Prop := Claim7.holds Tryd.pinned (.plain (OpenSpec.ofChange stepsCommitSpec)) stepsCommitCard

/-- THE TIED CARD OF 'rickyardkeep.CrashesResolve'. -/
def crashesResolveCard : Claim7 := { stood := { row := crashesResolveRow, standIns := [], harness := (true, "e44c9e840b0f46bef65dfb98f0a7588797efde6505a8a41f96fe595c4c41513d"), looks := false }, kinds := [], alts := [], laidByText := true, laidKinds := [.data, .data, .data], laidTests := true, laidLooks := .later }
def CrashesResolveCardSaid : Prop := Claim7.holds Tryd.pinned (.plain (OpenSpec.ofChange crashesResolveSpec)) crashesResolveCard

/-- THE TIED CARD OF 'rickyardkeep.SecondLate'. -/
def secondLateCard : Claim7 := { stood := { row := secondLateRow, standIns := [], harness := (true, "e44c9e840b0f46bef65dfb98f0a7588797efde6505a8a41f96fe595c4c41513d"), looks := false }, kinds := [], alts := [], laidByText := true, laidKinds := [.data, .data, .data], laidTests := true, laidLooks := .later }
def SecondLateCardSaid : Prop := Claim7.holds Tryd.pinned (.plain (OpenSpec.ofChange secondLateSpec)) secondLateCard

/-- THE SECOND FORM's CARD OF 'rickyardkeep.RowsGood'. -/
def rowsGoodUptoCard : Claim7 := { stood := { row := rowsGoodUptoRow, standIns := [], harness := (true, "e44c9e840b0f46bef65dfb98f0a7588797efde6505a8a41f96fe595c4c41513d"), looks := false }, kinds := [], alts := [], laidByText := true, laidKinds := [.data, .data, .data], laidTests := true, laidLooks := .later }
def RowsGoodUptoCardSaid : Prop := Claim7.holds Tryd.pinned (.plain (OpenSpec.upto rowsGoodSpec)) rowsGoodUptoCard

/-- THE SECOND FORM's CARD OF 'rickyardtop.TopWhole'. -/
def topWholeUptoCard : Claim7 := { stood := { row := topWholeUptoRow, standIns := [], harness := (true, "e44c9e840b0f46bef65dfb98f0a7588797efde6505a8a41f96fe595c4c41513d"), looks := false }, kinds := [], alts := [], laidByText := true, laidKinds := [.data, .data, .data], laidTests := true, laidLooks := .later }
def TopWholeUptoCardSaid : Prop := Claim7.holds Tryd.pinned (.plain (OpenSpec.upto topWholeSpec)) topWholeUptoCard

/-- THE SECOND FORM's CARD OF 'rickyardkeep.LocksHold'. -/
def locksHoldUptoCard : Claim7 := { stood := { row := locksHoldUptoRow, standIns := [], harness := (true, "e44c9e840b0f46bef65dfb98f0a7588797efde6505a8a41f96fe595c4c41513d"), looks := false }, kinds := [], alts := [], laidByText := true, laidKinds := [.data, .data, .data], laidTests := true, laidLooks := .later }
def LocksHoldUptoCardSaid : Prop := Claim7.holds Tryd.pinned (.plain (OpenSpec.upto locksHoldSpec)) locksHoldUptoCard

/-- THE SECOND FORM's CARD OF 'rickyardkeep.ReadsStay'. -/
def readsStayUptoCard : Claim7 := { stood := { row := readsStayUptoRow, standIns := [], harness := (true, "e44c9e840b0f46bef65dfb98f0a7588797efde6505a8a41f96fe595c4c41513d"), looks := false }, kinds := [], alts := [], laidByText := true, laidKinds := [.data, .data, .data], laidTests := true, laidLooks := .later }
def ReadsStayUptoCardSaid : Prop := Claim7.holds Tryd.pinned (.plain (OpenSpec.upto readsStaySpec)) readsStayUptoCard

/-- THE SECOND FORM's CARD OF 'rickyardkeep.UndoneStays'. -/
def undoneStaysUptoCard : Claim7 := { stood := { row := undoneStaysUptoRow, standIns := [], harness := (true, "e44c9e840b0f46bef65dfb98f0a7588797efde6505a8a41f96fe595c4c41513d"), looks := false }, kinds := [], alts := [], laidByText := true, laidKinds := [.data, .data, .data], laidTests := true, laidLooks := .later }
def UndoneStaysUptoCardSaid : Prop := Claim7.holds Tryd.pinned (.plain (OpenSpec.upto undoneStaysSpec)) undoneStaysUptoCard

/-- THE SECOND FORM's CARD OF 'rickyardkeep.WorldsGood'. -/
def worldsGoodUptoCard : Claim7 := { stood := { row := worldsGoodUptoRow, standIns := [], harness := (true, "e44c9e840b0f46bef65dfb98f0a7588797efde6505a8a41f96fe595c4c41513d"), looks := false }, kinds := [], alts := [], laidByText := true, laidKinds := [.data, .data, .data], laidTests := true, laidLooks := .later }
def WorldsGoodUptoCardSaid : Prop := Claim7.holds Tryd.pinned (.plain (OpenSpec.upto worldsGoodSpec)) worldsGoodUptoCard

/-- THE SECOND FORM's CARD OF 'rickyardkeep.StepsCommit'. -/
def stepsCommitUptoCard : Claim7 := { stood := { row := stepsCommitUptoRow, standIns := [], harness := (true, "e44c9e840b0f46bef65dfb98f0a7588797efde6505a8a41f96fe595c4c41513d"), looks := false }, kinds := [], alts := [], laidByText := true, laidKinds := [.data, .data, .data], laidTests := true, laidLooks := .later }
def StepsCommitUptoCardSaid : Prop := Claim7.holds Tryd.pinned (.plain (OpenSpec.upto stepsCommitSpec)) stepsCommitUptoCard

/-- THE SECOND FORM's CARD OF 'rickyardkeep.CrashesResolve'. -/
def crashesResolveUptoCard : Claim7 := { stood := { row := crashesResolveUptoRow, standIns := [], harness := (true, "e44c9e840b0f46bef65dfb98f0a7588797efde6505a8a41f96fe595c4c41513d"), looks := false }, kinds := [], alts := [], laidByText := true, laidKinds := [.data, .data, .data], laidTests := true, laidLooks := .later }
def CrashesResolveUptoCardSaid : Prop := Claim7.holds Tryd.pinned (.plain (OpenSpec.upto crashesResolveSpec)) crashesResolveUptoCard

/-- THE SECOND FORM's CARD OF 'rickyardkeep.SecondLate'. -/
def secondLateUptoCard : Claim7 := { stood := { row := secondLateUptoRow, standIns := [], harness := (true, "e44c9e840b0f46bef65dfb98f0a7588797efde6505a8a41f96fe595c4c41513d"), looks := false }, kinds := [], alts := [], laidByText := true, laidKinds := [.data, .data, .data], laidTests := true, laidLooks := .later }
def SecondLateUptoCardSaid : Prop := Claim7.holds Tryd.pinned (.plain (OpenSpec.upto secondLateSpec)) secondLateUptoCard
end Rows
end Go.Proofs.YtniomgngiiiklabDoor
