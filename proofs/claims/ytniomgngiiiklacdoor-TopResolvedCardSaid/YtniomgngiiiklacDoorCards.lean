/-
  DERIVED. GIVEN WITH THE SEED: THE CARDS: each row of YtniomgngiiiklacDoorRows.lean that lists a variable, with what it lists TIED to the program's text (the seventh form; the later family's looks); each row that meets fmt, with fmt's text TOLD by the authors' own Lean function (tested against real Go, not proved from fmt's source: count such statements apart). THE CARD IS WHAT COUNTS. Prove the row's statement (the work); the ties are given (YtniomgngiiiklacDoorTie.lean); close each card by the builder's one call (the guide's Derived/Test/ToyasCard.lean, 'card_holds'). Laid BY PROGRAM, IN A SANDBOX (cutbox-door.mjs). By AI agents, Wed Nov 11 2026. No macro, syntax, notation, axiom, sorry.
-/
import Derived.Test.YtniomgngiiiklacDoorRows
import GoSem.ClaimSeven
namespace Go.Proofs.YtniomgngiiiklacDoor
namespace Rows

/-- THE TIED CARD OF 'rickyardtop.TopResolved'. -/
def topResolvedCard : Claim7 := { stood := { row := topResolvedRow, standIns := [], harness := (true, "c12c5c7f87fa9a1ad9522a513abd18e9f0a83ef0e85763ce862b44389c9b7365"), looks := false }, kinds := [], alts := [], laidByText := true, laidKinds := [.data, .data, .data], laidTests := true, laidLooks := .later }
def TopResolvedCardSaid : Prop := Claim7.holds Tryd.pinned (.plain (OpenSpec.ofChange topResolvedSpec)) topResolvedCard

/-- THE TIED CARD OF 'rickyardtop.TopAsking'. -/
def topAskingCard : Claim7 := { stood := { row := topAskingRow, standIns := [], harness := (true, "c12c5c7f87fa9a1ad9522a513abd18e9f0a83ef0e85763ce862b44389c9b7365"), looks := false }, kinds := [], alts := [], laidByText := true, laidKinds := [.data, .data, .data], laidTests := true, laidLooks := .later }
def TopAskingCardSaid : Prop := Claim7.holds Tryd.pinned (.plain (OpenSpec.ofChange topAskingSpec)) topAskingCard

/-- THE TIED CARD OF 'rickyardtop.TopTimes'. -/
def topTimesCard : Claim7 := { stood := { row := topTimesRow, standIns := [], harness := (true, "c12c5c7f87fa9a1ad9522a513abd18e9f0a83ef0e85763ce862b44389c9b7365"), looks := false }, kinds := [], alts := [], laidByText := true, laidKinds := [.data, .data, .data], laidTests := true, laidLooks := .later }
def TopTimesCardSaid : Prop := Claim7.holds Tryd.pinned (.plain (OpenSpec.ofChange topTimesSpec)) topTimesCard

/-- THE TIED CARD OF 'rickyardtop.TopTwice'. -/
def topTwiceCard : Claim7 := { stood := { row := topTwiceRow, standIns := [], harness := (true, "c12c5c7f87fa9a1ad9522a513abd18e9f0a83ef0e85763ce862b44389c9b7365"), looks := false }, kinds := [], alts := [], laidByText := true, laidKinds := [.data, .data, .data], laidTests := true, laidLooks := .later }
def TopTwiceCardSaid : Prop := Claim7.holds Tryd.pinned (.plain (OpenSpec.ofChange topTwiceSpec)) topTwiceCard

/-- THE SECOND FORM's CARD OF 'rickyardtop.TopResolved'. -/
def topResolvedUptoCard : Claim7 := { stood := { row := topResolvedUptoRow, standIns := [], harness := (true, "c12c5c7f87fa9a1ad9522a513abd18e9f0a83ef0e85763ce862b44389c9b7365"), looks := false }, kinds := [], alts := [], laidByText := true, laidKinds := [.data, .data, .data], laidTests := true, laidLooks := .later }
def TopResolvedUptoCardSaid : Prop := Claim7.holds Tryd.pinned (.plain (OpenSpec.upto topResolvedSpec)) topResolvedUptoCard

/-- THE SECOND FORM's CARD OF 'rickyardtop.TopAsking'. -/
def topAskingUptoCard : Claim7 := { stood := { row := topAskingUptoRow, standIns := [], harness := (true, "c12c5c7f87fa9a1ad9522a513abd18e9f0a83ef0e85763ce862b44389c9b7365"), looks := false }, kinds := [], alts := [], laidByText := true, laidKinds := [.data, .data, .data], laidTests := true, laidLooks := .later }
def TopAskingUptoCardSaid : Prop := Claim7.holds Tryd.pinned (.plain (OpenSpec.upto topAskingSpec)) topAskingUptoCard

/-- THE SECOND FORM's CARD OF 'rickyardtop.TopTimes'. -/
def topTimesUptoCard : Claim7 := { stood := { row := topTimesUptoRow, standIns := [], harness := (true, "c12c5c7f87fa9a1ad9522a513abd18e9f0a83ef0e85763ce862b44389c9b7365"), looks := false }, kinds := [], alts := [], laidByText := true, laidKinds := [.data, .data, .data], laidTests := true, laidLooks := .later }
def TopTimesUptoCardSaid : Prop := Claim7.holds Tryd.pinned (.plain (OpenSpec.upto topTimesSpec)) topTimesUptoCard

/-- THE SECOND FORM's CARD OF 'rickyardtop.TopTwice'. -/
def topTwiceUptoCard : Claim7 := { stood := { row := topTwiceUptoRow, standIns := [], harness := (true, "c12c5c7f87fa9a1ad9522a513abd18e9f0a83ef0e85763ce862b44389c9b7365"), looks := false }, kinds := [], alts := [], laidByText := true, laidKinds := [.data, .data, .data], laidTests := true, laidLooks := .later }
def TopTwiceUptoCardSaid : Prop := Claim7.holds Tryd.pinned (.plain (OpenSpec.upto topTwiceSpec)) topTwiceUptoCard
end Rows
end Go.Proofs.YtniomgngiiiklacDoor
