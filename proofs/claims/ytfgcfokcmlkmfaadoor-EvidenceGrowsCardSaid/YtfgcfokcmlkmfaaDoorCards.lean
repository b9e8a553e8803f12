/-
  DERIVED. GIVEN WITH THE SEED: THE CARDS: each row of YtfgcfokcmlkmfaaDoorRows.lean that lists a variable, with what it lists TIED to the program's text (the seventh form; the later family's looks); each row that meets fmt, with fmt's text TOLD by the authors' own Lean function (tested against real Go, not proved from fmt's source: count such statements apart). THE CARD IS WHAT COUNTS. Prove the row's statement (the work); the ties are given (YtfgcfokcmlkmfaaDoorTie.lean); close each card by the builder's one call (the guide's Derived/Test/ToyasCard.lean, 'card_holds'). Laid BY PROGRAM, IN A SANDBOX (cutbox-door.mjs). By AI agents, Wed Nov 11 2026. No macro, syntax, notation, axiom, sorry.
-/
import Derived.Test.YtfgcfokcmlkmfaaDoorRows
import GoSem.ClaimSeven
namespace Go.Proofs.YtfgcfokcmlkmfaaDoor
namespace Rows

/-- THE TIED CARD OF 'testamurlaw50.EvidenceAddSpec'. -/
def evidenceAddSpecCard : Claim7 := { stood := { row := evidenceAddSpecRow, standIns := [], harness := (true, "75bf97c276ed814a2c3dfad46c781ce14b912876429549a2293225aca40a2d70"), looks := false }, kinds := [], alts := [], laidByText := true, laidKinds := [.data], laidTests := true, laidLooks := .later }
def EvidenceAddSpecCardSaid : Prop := Claim7.holds Tryd.pinned (.plain (OpenSpec.ofChange evidenceAddSpecSpec)) evidenceAddSpecCard

/-- THE TIED CARD OF 'testamurlaw50.EvidenceCodeSpec'. -/
def evidenceCodeSpecCard : Claim7 := { stood := { row := evidenceCodeSpecRow, standIns := [], harness := (true, "75bf97c276ed814a2c3dfad46c781ce14b912876429549a2293225aca40a2d70"), looks := false }, kinds := [], alts := [], laidByText := true, laidKinds := [.data], laidTests := true, laidLooks := .later }
def EvidenceCodeSpecCardSaid : Prop := Claim7.holds Tryd.pinned (.plain (OpenSpec.ofChange evidenceCodeSpecSpec)) evidenceCodeSpecCard

/-- THE TIED CARD OF 'testamurlaw50.EvidenceBrokenSpec'. -/
def evidenceBrokenSpecCard : Claim7 := { stood := { row := evidenceBrokenSpecRow, standIns := [], harness := (true, "75bf97c276ed814a2c3dfad46c781ce14b912876429549a2293225aca40a2d70"), looks := false }, kinds := [], alts := [], laidByText := true, laidKinds := [.data], laidTests := true, laidLooks := .later }
def EvidenceBrokenSpecCardSaid : Prop := Claim7.holds Tryd.pinned (.plain (OpenSpec.ofChange evidenceBrokenSpecSpec)) evidenceBrokenSpecCard

/-- THE TIED CARD OF 'testamurlaw50.EvidenceOne'. -/
def evidenceOneCard : Claim7 := { stood := { row := evidenceOneRow, standIns := [], harness := (true, "75bf97c276ed814a2c3dfad46c781ce14b912876429549a2293225aca40a2d70"), looks := false }, kinds := [], alts := [], laidByText := true, laidKinds := [.data], laidTests := true, laidLooks := .later }
def EvidenceOneCardSaid : Prop := Claim7.holds Tryd.pinned (.plain (OpenSpec.ofChange evidenceOneSpec)) evidenceOneCard

/-- THE TIED CARD OF 'testamurlaw50.EvidenceChanged'. -/
def evidenceChangedCard : Claim7 := { stood := { row := evidenceChangedRow, standIns := [], harness := (true, "75bf97c276ed814a2c3dfad46c781ce14b912876429549a2293225aca40a2d70"), looks := false }, kinds := [], alts := [], laidByText := true, laidKinds := [.data], laidTests := true, laidLooks := .later }
def EvidenceChangedCardSaid : Prop := Claim7.holds Tryd.pinned (.plain (OpenSpec.ofChange evidenceChangedSpec)) evidenceChangedCard

/-- THE TIED CARD OF 'testamurlaw50.EvidenceGrows'. -/
def evidenceGrowsCard : Claim7 := { stood := { row := evidenceGrowsRow, standIns := [], harness := (true, "75bf97c276ed814a2c3dfad46c781ce14b912876429549a2293225aca40a2d70"), looks := false }, kinds := [], alts := [], laidByText := true, laidKinds := [.data], laidTests := true, laidLooks := .later }
def EvidenceGrowsCardSaid : Prop := Claim7.holds Tryd.pinned (.plain (OpenSpec.ofChange evidenceGrowsSpec)) evidenceGrowsCard

/-- THE TIED CARD OF 'testamurlaw50.EvidenceBack'. -/
def evidenceBackCard : Claim7 := { stood := { row := evidenceBackRow, standIns := [], harness := (true, "75bf97c276ed814a2c3dfad46c781ce14b912876429549a2293225aca40a2d70"), looks := false }, kinds := [], alts := [], laidByText := true, laidKinds := [.data], laidTests := true, laidLooks := .later }
def EvidenceBackCardSaid : Prop := Claim7.holds Tryd.pinned (.plain (OpenSpec.ofChange evidenceBackSpec)) evidenceBackCard

/-- THE SECOND FORM's CARD OF 'testamurlaw50.EvidenceAddSpec'. -/
def evidenceAddSpecUptoCard : Claim7 := { stood := { row := evidenceAddSpecUptoRow, standIns := [], harness := (true, "75bf97c276ed814a2c3dfad46c781ce14b912876429549a2293225aca40a2d70"), looks := false }, kinds := [], alts := [], laidByText := true, laidKinds := [.data], laidTests := true, laidLooks := .later }
def EvidenceAddSpecUptoCardSaid : Prop := Claim7.holds Tryd.pinned (.plain (OpenSpec.upto evidenceAddSpecSpec)) evidenceAddSpecUptoCard

/-- THE SECOND FORM's CARD OF 'testamurlaw50.EvidenceCodeSpec'. -/
def evidenceCodeSpecUptoCard : Claim7 := { stood := { row := evidenceCodeSpecUptoRow, standIns := [], harness := (true, "75bf97c276ed814a2c3dfad46c781ce14b912876429549a2293225aca40a2d70"), looks := false }, kinds := [], alts := [], laidByText := true, laidKinds := [.data], laidTests := true, laidLooks := .later }
def EvidenceCodeSpecUptoCardSaid : Prop := Claim7.holds Tryd.pinned (.plain (OpenSpec.upto evidenceCodeSpecSpec)) evidenceCodeSpecUptoCard

/-- THE SECOND FORM's CARD OF 'testamurlaw50.EvidenceBrokenSpec'. -/
def evidenceBrokenSpecUptoCard : Claim7 := { stood := { row := evidenceBrokenSpecUptoRow, standIns := [], harness := (true, "75bf97c276ed814a2c3dfad46c781ce14b912876429549a2293225aca40a2d70"), looks := false }, kinds := [], alts := [], laidByText := true, laidKinds := [.data], laidTests := true, laidLooks := .later }
def EvidenceBrokenSpecUptoCardSaid : Prop := Claim7.holds Tryd.pinned (.plain (OpenSpec.upto evidenceBrokenSpecSpec)) evidenceBrokenSpecUptoCard

/-- THE SECOND FORM's CARD OF 'testamurlaw50.EvidenceOne'. -/
def evidenceOneUptoCard : Claim7 := { stood := { row := evidenceOneUptoRow, standIns := [], harness := (true, "75bf97c276ed814a2c3dfad46c781ce14b912876429549a2293225aca40a2d70"), looks := false }, kinds := [], alts := [], laidByText := true, laidKinds := [.data], laidTests := true, laidLooks := .later }
def EvidenceOneUptoCardSaid : Prop := Claim7.holds Tryd.pinned (.plain (OpenSpec.upto evidenceOneSpec)) evidenceOneUptoCard

/-- THE SECOND FORM's CARD OF 'testamurlaw50.EvidenceChanged'. -/
def evidenceChangedUptoCard : Claim7 := { stood := { row := evidenceChangedUptoRow, standIns := [], harness := (true, "75bf97c276ed814a2c3dfad46c781ce14b912876429549a2293225aca40a2d70"), looks := false }, kinds := [], alts := [], laidByText := true, laidKinds := [.data], laidTests := true, laidLooks := .later }
def EvidenceChangedUptoCardSaid : Prop := Claim7.holds Tryd.pinned (.plain (OpenSpec.upto evidenceChangedSpec)) evidenceChangedUptoCard

/-- THE SECOND FORM's CARD OF 'testamurlaw50.EvidenceGrows'. -/
def evidenceGrowsUptoCard : Claim7 := { stood := { row := evidenceGrowsUptoRow, standIns := [], harness := (true, "75bf97c276ed814a2c3dfad46c781ce14b912876429549a2293225aca40a2d70"), looks := false }, kinds := [], alts := [], laidByText := true, laidKinds := [.data], laidTests := true, laidLooks := .later }
def EvidenceGrowsUptoCardSaid : Prop := Claim7.holds Tryd.pinned (.plain (OpenSpec.upto evidenceGrowsSpec)) evidenceGrowsUptoCard

/-- THE SECOND FORM's CARD OF 'testamurlaw50.EvidenceBack'. -/
def evidenceBackUptoCard : Claim7 := { stood := { row := evidenceBackUptoRow, standIns := [], harness := (true, "75bf97c276ed814a2c3dfad46c781ce14b912876429549a2293225aca40a2d70"), looks := false }, kinds := [], alts := [], laidByText := true, laidKinds := [.data], laidTests := true, laidLooks := .later }
def EvidenceBackUptoCardSaid : Prop := Claim7.holds Tryd.pinned (.plain (OpenSpec.upto evidenceBackSpec)) evidenceBackUptoCard
end Rows
end Go.Proofs.YtfgcfokcmlkmfaaDoor
