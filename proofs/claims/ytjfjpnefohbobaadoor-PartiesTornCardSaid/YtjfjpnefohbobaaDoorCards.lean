/-
  DERIVED. GIVEN WITH THE SEED: THE CARDS: each row of YtjfjpnefohbobaaDoorRows.lean that lists a variable, with what it lists TIED to the program's text (the seventh form; the later family's looks); each row that meets fmt, with fmt's text TOLD by the authors' own Lean function (tested against real Go, not proved from fmt's source: count such statements apart). THE CARD IS WHAT COUNTS. Prove the row's statement (the work); the ties are given (YtjfjpnefohbobaaDoorTie.lean); close each card by the builder's one call (the guide's Derived/Test/ToyasCard.lean, 'card_holds'). Laid BY PROGRAM, IN A SANDBOX (cutbox-door.mjs). By AI agents, Wed Nov 11 2026. No macro, syntax, notation, axiom, sorry.
-/
import Derived.Test.YtjfjpnefohbobaaDoorRows
import GoSem.ClaimSeven
namespace Go.Proofs.YtjfjpnefohbobaaDoor
namespace Rows

/-- THE TIED CARD OF 'testamurlaw51.PartiesTorn'. -/
def partiesTornCard : Claim7 := { stood := { row := partiesTornRow, standIns := [], harness := (true, "65bcd0b848debee3f89389c35fa643bdf9727950db5b3ec4f8e21105d9ee73ea"), looks := false }, kinds := [], alts := [], laidByText := true, laidKinds := [.data], laidTests := true, laidLooks := .later }
def PartiesTornCardSaid : Prop := Claim7.holds Tryd.pinned (.plain (OpenSpec.ofChange partiesTornSpec)) partiesTornCard

/-- THE TIED CARD OF 'testamurlaw51.PartiesAgain'. -/
def partiesAgainCard : Claim7 := { stood := { row := partiesAgainRow, standIns := [], harness := (true, "65bcd0b848debee3f89389c35fa643bdf9727950db5b3ec4f8e21105d9ee73ea"), looks := false }, kinds := [], alts := [], laidByText := true, laidKinds := [.data], laidTests := true, laidLooks := .later }
def PartiesAgainCardSaid : Prop := Claim7.holds Tryd.pinned (.plain (OpenSpec.ofChange partiesAgainSpec)) partiesAgainCard

/-- THE TIED CARD OF 'testamurlaw51.PartiesKept'. -/
def partiesKeptCard : Claim7 := { stood := { row := partiesKeptRow, standIns := [], harness := (true, "65bcd0b848debee3f89389c35fa643bdf9727950db5b3ec4f8e21105d9ee73ea"), looks := false }, kinds := [], alts := [], laidByText := true, laidKinds := [.data], laidTests := true, laidLooks := .later }
def PartiesKeptCardSaid : Prop := Claim7.holds Tryd.pinned (.plain (OpenSpec.ofChange partiesKeptSpec)) partiesKeptCard

/-- THE TIED CARD OF 'testamurlaw51.PartiesLinked'. -/
def partiesLinkedCard : Claim7 := { stood := { row := partiesLinkedRow, standIns := [], harness := (true, "65bcd0b848debee3f89389c35fa643bdf9727950db5b3ec4f8e21105d9ee73ea"), looks := false }, kinds := [], alts := [], laidByText := true, laidKinds := [.data], laidTests := true, laidLooks := .later }
def PartiesLinkedCardSaid : Prop := Claim7.holds Tryd.pinned (.plain (OpenSpec.ofChange partiesLinkedSpec)) partiesLinkedCard

/-- THE SECOND FORM's CARD OF 'testamurlaw51.PartiesTorn'. -/
def partiesTornUptoCard : Claim7 := { stood := { row := partiesTornUptoRow, standIns := [], harness := (true, "65bcd0b848debee3f89389c35fa643bdf9727950db5b3ec4f8e21105d9ee73ea"), looks := false }, kinds := [], alts := [], laidByText := true, laidKinds := [.data], laidTests := true, laidLooks := .later }
def PartiesTornUptoCardSaid : Prop := Claim7.holds Tryd.pinned (.plain (OpenSpec.upto partiesTornSpec)) partiesTornUptoCard

/-- THE SECOND FORM's CARD OF 'testamurlaw51.PartiesAgain'. -/
def partiesAgainUptoCard : Claim7 := { stood := { row := partiesAgainUptoRow, standIns := [], harness := (true, "65bcd0b848debee3f89389c35fa643bdf9727950db5b3ec4f8e21105d9ee73ea"), looks := false }, kinds := [], alts := [], laidByText := true, laidKinds := [.data], laidTests := true, laidLooks := .later }
def PartiesAgainUptoCardSaid : Prop := Claim7.holds Tryd.pinned (.plain (OpenSpec.upto partiesAgainSpec)) partiesAgainUptoCard

/-- THE SECOND FORM's CARD OF 'testamurlaw51.PartiesKept'. -/
def partiesKeptUptoCard : Claim7 := { stood := { row := partiesKeptUptoRow, standIns := [], harness := (true, "65bcd0b848debee3f89389c35fa643bdf9727950db5b3ec4f8e21105d9ee73ea"), looks := false }, kinds := [], alts := [], laidByText := true, laidKinds := [.data], laidTests := true, laidLooks := .later }
def PartiesKeptUptoCardSaid : Prop := Claim7.holds Tryd.pinned (.plain (OpenSpec.upto partiesKeptSpec)) partiesKeptUptoCard

/-- THE SECOND FORM's CARD OF 'testamurlaw51.PartiesLinked'. -/
def partiesLinkedUptoCard : Claim7 := { stood := { row := partiesLinkedUptoRow, standIns := [], harness := (true, "65bcd0b848debee3f89389c35fa643bdf9727950db5b3ec4f8e21105d9ee73ea"), looks := false }, kinds := [], alts := [], laidByText := true, laidKinds := [.data], laidTests := true, laidLooks := .later }
def PartiesLinkedUptoCardSaid : Prop := Claim7.holds Tryd.pinned (.plain (OpenSpec.upto partiesLinkedSpec)) partiesLinkedUptoCard
end Rows
end Go.Proofs.YtjfjpnefohbobaaDoor
