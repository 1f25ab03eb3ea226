/-
  DERIVED. GIVEN WITH THE SEED: THE CARDS: each row of YtniomgngiiiklaaDoorRows.lean that lists a variable, with what it lists TIED to the program's text (the seventh form; the later family's looks); each row that meets fmt, with fmt's text TOLD by the authors' own Lean function (tested against real Go, not proved from fmt's source: count such statements apart). THE CARD IS WHAT COUNTS. Prove the row's statement (the work); the ties are given (YtniomgngiiiklaaDoorTie.lean); close each card by the builder's one call (the guide's Derived/Test/ToyasCard.lean, 'card_holds'). Laid BY PROGRAM, IN A SANDBOX (cutbox-door.mjs). By AI agents, Wed Nov 11 2026. No macro, syntax, notation, axiom, sorry.
-/
import Derived.Test.YtniomgngiiiklaaDoorRows
import GoSem.ClaimSeven
namespace Go.Proofs.YtniomgngiiiklaaDoor
namespace Rows

/-- THE TIED CARD OF 'rickyardtop.TopSnapshot'. -/
def topSnapshotCard : Claim7 := { stood := { row := topSnapshotRow, standIns := [], harness := (true, "408a8ce1783b3f371d5a906d1e497bd87da8ef5d1be0aa8240e9363c79b6edc6"), looks := false }, kinds := [], alts := [], laidByText := true, laidKinds := [.data, .data, .data], laidTests := true, laidLooks := .later }
def TopSnapshotCardSaid : Prop := Claim7.holds Tryd.pinned (.plain (OpenSpec.ofChange topSnapshotSpec)) topSnapshotCard

/-- THE TIED CARD OF 'rickyardtop.TopApart'. -/
def topApartCard : Claim7 := { stood := { row := topApartRow, standIns := [], harness := (true, "408a8ce1783b3f371d5a906d1e497bd87da8ef5d1be0aa8240e9363c79b6edc6"), looks := false }, kinds := [], alts := [], laidByText := true, laidKinds := [.data, .data, .data], laidTests := true, laidLooks := .later }
def TopApartCardSaid : Prop := Claim7.holds Tryd.pinned (.plain (OpenSpec.ofChange topApartSpec)) topApartCard

/-- THE SECOND FORM's CARD OF 'rickyardtop.TopSnapshot'. -/
def topSnapshotUptoCard : Claim7 := { stood := { row := topSnapshotUptoRow, standIns := [], harness := (true, "408a8ce1783b3f371d5a906d1e497bd87da8ef5d1be0aa8240e9363c79b6edc6"), looks := false }, kinds := [], alts := [], laidByText := true, laidKinds := [.data, .data, .data], laidTests := true, laidLooks := .later }
def TopSnapshotUptoCardSaid : Prop := Claim7.holds Tryd.pinned (.plain (OpenSpec.upto topSnapshotSpec)) topSnapshotUptoCard

/-- THE SECOND FORM's CARD OF 'rickyardtop.TopApart'. -/
def topApartUptoCard : Claim7 := { stood := { row := topApartUptoRow, standIns := [], harness := (true, "408a8ce1783b3f371d5a906d1e497bd87da8ef5d1be0aa8240e9363c79b6edc6"), looks := false }, kinds := [], alts := [], laidByText := true, laidKinds := [.data, .data, .data], laidTests := true, laidLooks := .later }
def TopApartUptoCardSaid : Prop := Claim7.holds Tryd.pinned (.plain (OpenSpec.upto topApartSpec)) topApartUptoCard
end Rows
end Go.Proofs.YtniomgngiiiklaaDoor
