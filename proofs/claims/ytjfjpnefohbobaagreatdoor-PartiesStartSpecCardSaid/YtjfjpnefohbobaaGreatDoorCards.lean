/-
  DERIVED. GIVEN WITH THE SEED: THE CARDS: each row of YtjfjpnefohbobaaGreatDoorRows.lean that lists a variable, with what it lists TIED to the program's text (the seventh form; the later family's looks); each row that meets fmt, with fmt's text TOLD by the authors' own Lean function (tested against real Go, not proved from fmt's source: count such statements apart). THE CARD IS WHAT COUNTS. Prove the row's statement (the work); the ties are given (YtjfjpnefohbobaaGreatDoorTie.lean); close each card by the builder's one call (the guide's Derived/Test/ToyasCard.lean, 'card_holds'). Laid BY PROGRAM, IN A SANDBOX (cutbox-door.mjs). By AI agents, Wed Nov 11 2026. No macro, syntax, notation, axiom, sorry.
-/
import Derived.Test.YtjfjpnefohbobaaGreatDoorRows
import GoSem.ClaimSeven
namespace Go.Proofs.YtjfjpnefohbobaaGreatDoor
namespace Rows

/-- THE TIED CARD OF 'testamurlaw51.PartiesNoteSpec'. -/
def partiesNoteSpecCard : Claim7 := { stood := { row := partiesNoteSpecRow, standIns := [], harness := (true, "d1028fde307605d5166d9dcba721cf0a95ba2de8b10a90c81afe987e8d9675ff"), looks := false }, kinds := [], alts := [], laidByText := true, laidKinds := [.data], laidTests := true, laidLooks := .later }
def PartiesNoteSpecCardSaid : Prop := Claim7.holds Tryz.pinned (.plain (OpenSpec.ofChange partiesNoteSpecSpec)) partiesNoteSpecCard

/-- THE TIED CARD OF 'testamurlaw51.PartiesStartSpec'. -/
def partiesStartSpecCard : Claim7 := { stood := { row := partiesStartSpecRow, standIns := [], harness := (true, "d1028fde307605d5166d9dcba721cf0a95ba2de8b10a90c81afe987e8d9675ff"), looks := false }, kinds := [], alts := [], laidByText := true, laidKinds := [.data], laidTests := true, laidLooks := .later }
def PartiesStartSpecCardSaid : Prop := Claim7.holds Tryz.pinned (.plain (OpenSpec.ofChange partiesStartSpecSpec)) partiesStartSpecCard

/-- THE SECOND FORM's CARD OF 'testamurlaw51.PartiesNoteSpec'. -/
def partiesNoteSpecUptoCard : Claim7 := { stood := { row := partiesNoteSpecUptoRow, standIns := [], harness := (true, "d1028fde307605d5166d9dcba721cf0a95ba2de8b10a90c81afe987e8d9675ff"), looks := false }, kinds := [], alts := [], laidByText := true, laidKinds := [.data], laidTests := true, laidLooks := .later }
def PartiesNoteSpecUptoCardSaid : Prop := Claim7.holds Tryz.pinned (.plain (OpenSpec.upto partiesNoteSpecSpec)) partiesNoteSpecUptoCard

/-- THE SECOND FORM's CARD OF 'testamurlaw51.PartiesStartSpec'. -/
def partiesStartSpecUptoCard : Claim7 := { stood := { row := partiesStartSpecUptoRow, standIns := [], harness := (true, "d1028fde307605d5166d9dcba721cf0a95ba2de8b10a90c81afe987e8d9675ff"), looks := false }, kinds := [], alts := [], laidByText := true, laidKinds := [.data], laidTests := true, laidLooks := .later }
def PartiesStartSpecUptoCardSaid : Prop := Claim7.holds Tryz.pinned (.plain (OpenSpec.upto partiesStartSpecSpec)) partiesStartSpecUptoCard
end Rows
end Go.Proofs.YtjfjpnefohbobaaGreatDoor
