/-
  DERIVED. GIVEN WITH THE SEED: THE CARDS: each row of YtnhcikbglcaboaaDoorRows.lean that lists a variable, with what it lists TIED to the program's text (the seventh form; the later family's looks); each row that meets fmt, with fmt's text TOLD by the authors' own Lean function (tested against real Go, not proved from fmt's source: count such statements apart). THE CARD IS WHAT COUNTS. Prove the row's statement (the work); the ties are given (YtnhcikbglcaboaaDoorTie.lean); close each card by the builder's one call (the guide's Derived/Test/ToyasCard.lean, 'card_holds'). Laid BY PROGRAM, IN A SANDBOX (cutbox-door.mjs). By AI agents, Wed Nov 11 2026. No macro, syntax, notation, axiom, sorry.
-/
import Derived.Test.YtnhcikbglcaboaaDoorRows
import GoSem.ClaimSeven
namespace Go.Proofs.YtnhcikbglcaboaaDoor
namespace Rows

/-- THE TIED CARD OF 'pigeonrylaw21.InboxPlay'. -/
def inboxPlayCard : Claim7 := { stood := { row := inboxPlayRow, standIns := [], harness := (true, "5e46996672c8d8171a1acb49ae4affcc5994fb551cede6cd7e7b454466dbf062"), looks := false }, kinds := [], alts := [], laidByText := true, laidKinds := [.data], laidTests := true, laidLooks := .later }
def InboxPlayCardSaid : Prop := Claim7.holds Tryd.pinned (.plain (OpenSpec.ofChange inboxPlaySpec)) inboxPlayCard

/-- THE TIED CARD OF 'pigeonrylaw21.InboxMany'. -/
def inboxManyCard : Claim7 := { stood := { row := inboxManyRow, standIns := [], harness := (true, "5e46996672c8d8171a1acb49ae4affcc5994fb551cede6cd7e7b454466dbf062"), looks := false }, kinds := [], alts := [], laidByText := true, laidKinds := [.data], laidTests := true, laidLooks := .later }
def InboxManyCardSaid : Prop := Claim7.holds Tryd.pinned (.plain (OpenSpec.ofChange inboxManySpec)) inboxManyCard

/-- THE TIED CARD OF 'pigeonrylaw21.InboxEach'. -/
def inboxEachCard : Claim7 := { stood := { row := inboxEachRow, standIns := [], harness := (true, "5e46996672c8d8171a1acb49ae4affcc5994fb551cede6cd7e7b454466dbf062"), looks := false }, kinds := [], alts := [], laidByText := true, laidKinds := [.data], laidTests := true, laidLooks := .later }
def InboxEachCardSaid : Prop := Claim7.holds Tryd.pinned (.plain (OpenSpec.ofChange inboxEachSpec)) inboxEachCard

/-- THE TIED CARD OF 'pigeonrylaw21.InboxOrder'. -/
def inboxOrderCard : Claim7 := { stood := { row := inboxOrderRow, standIns := [], harness := (true, "5e46996672c8d8171a1acb49ae4affcc5994fb551cede6cd7e7b454466dbf062"), looks := false }, kinds := [], alts := [], laidByText := true, laidKinds := [.data], laidTests := true, laidLooks := .later }
def InboxOrderCardSaid : Prop := Claim7.holds Tryd.pinned (.plain (OpenSpec.ofChange inboxOrderSpec)) inboxOrderCard

/-- THE TIED CARD OF 'pigeonrylaw21.InboxCopies'. -/
def inboxCopiesCard : Claim7 := { stood := { row := inboxCopiesRow, standIns := [], harness := (true, "5e46996672c8d8171a1acb49ae4affcc5994fb551cede6cd7e7b454466dbf062"), looks := false }, kinds := [], alts := [], laidByText := true, laidKinds := [.data], laidTests := true, laidLooks := .later }
def InboxCopiesCardSaid : Prop := Claim7.holds Tryd.pinned (.plain (OpenSpec.ofChange inboxCopiesSpec)) inboxCopiesCard

/-- THE TIED CARD OF 'pigeonrylaw21.InboxNil'. -/
def inboxNilCard : Claim7 := { stood := { row := inboxNilRow, standIns := [], harness := (true, "5e46996672c8d8171a1acb49ae4affcc5994fb551cede6cd7e7b454466dbf062"), looks := false }, kinds := [], alts := [], laidByText := true, laidKinds := [.data], laidTests := true, laidLooks := .later }
def InboxNilCardSaid : Prop := Claim7.holds Tryd.pinned (.plain (OpenSpec.ofChange inboxNilSpec)) inboxNilCard

/-- THE SECOND FORM's CARD OF 'pigeonrylaw21.InboxPlay'. -/
def inboxPlayUptoCard : Claim7 := { stood := { row := inboxPlayUptoRow, standIns := [], harness := (true, "5e46996672c8d8171a1acb49ae4affcc5994fb551cede6cd7e7b454466dbf062"), looks := false }, kinds := [], alts := [], laidByText := true, laidKinds := [.data], laidTests := true, laidLooks := .later }
def InboxPlayUptoCardSaid : Prop := Claim7.holds Tryd.pinned (.plain (OpenSpec.upto inboxPlaySpec)) inboxPlayUptoCard

/-- THE SECOND FORM's CARD OF 'pigeonrylaw21.InboxMany'. -/
def inboxManyUptoCard : Claim7 := { stood := { row := inboxManyUptoRow, standIns := [], harness := (true, "5e46996672c8d8171a1acb49ae4affcc5994fb551cede6cd7e7b454466dbf062"), looks := false }, kinds := [], alts := [], laidByText := true, laidKinds := [.data], laidTests := true, laidLooks := .later }
def InboxManyUptoCardSaid : Prop := Claim7.holds Tryd.pinned (.plain (OpenSpec.upto inboxManySpec)) inboxManyUptoCard

/-- THE SECOND FORM's CARD OF 'pigeonrylaw21.InboxEach'. -/
def inboxEachUptoCard : Claim7 := { stood := { row := inboxEachUptoRow, standIns := [], harness := (true, "5e46996672c8d8171a1acb49ae4affcc5994fb551cede6cd7e7b454466dbf062"), looks := false }, kinds := [], alts := [], laidByText := true, laidKinds := [.data], laidTests := true, laidLooks := .later }
def InboxEachUptoCardSaid : Prop := Claim7.holds Tryd.pinned (.plain (OpenSpec.upto inboxEachSpec)) inboxEachUptoCard

/-- THE SECOND FORM's CARD OF 'pigeonrylaw21.InboxOrder'. -/
def inboxOrderUptoCard : Claim7 := { stood := { row := inboxOrderUptoRow, standIns := [], harness := (true, "5e46996672c8d8171a1acb49ae4affcc5994fb551cede6cd7e7b454466dbf062"), looks := false }, kinds := [], alts := [], laidByText := true, laidKinds := [.data], laidTests := true, laidLooks := .later }
def InboxOrderUptoCardSaid : Prop := Claim7.holds Tryd.pinned (.plain (OpenSpec.upto inboxOrderSpec)) inboxOrderUptoCard

/-- THE SECOND FORM's CARD OF 'pigeonrylaw21.InboxCopies'. -/
def inboxCopiesUptoCard : Claim7 := { stood := { row := inboxCopiesUptoRow, standIns := [], harness := (true, "5e46996672c8d8171a1acb49ae4affcc5994fb551cede6cd7e7b454466dbf062"), looks := false }, kinds := [], alts := [], laidByText := true, laidKinds := [.data], laidTests := true, laidLooks := .later }
def InboxCopiesUptoCardSaid : Prop := Claim7.holds Tryd.pinned (.plain (OpenSpec.upto inboxCopiesSpec)) inboxCopiesUptoCard

/-- THE SECOND FORM's CARD OF 'pigeonrylaw21.InboxNil'. -/
def inboxNilUptoCard : Claim7 := { stood := { row := inboxNilUptoRow, standIns := [], harness := (true, "5e46996672c8d8171a1acb49ae4affcc5994fb551cede6cd7e7b454466dbf062"), looks := false }, kinds := [], alts := [], laidByText := true, laidKinds := [.data], laidTests := true, laidLooks := .later }
def InboxNilUptoCardSaid : Prop := Claim7.holds Tryd.pinned (.plain (OpenSpec.upto inboxNilSpec)) inboxNilUptoCard
end Rows
end Go.Proofs.YtnhcikbglcaboaaDoor
