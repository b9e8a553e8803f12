/-
  DERIVED. GIVEN WITH THE SEED: THE CARDS: each row of YthldjgjpokjliaaDoorRows.lean that lists a variable, with what it lists TIED to the program's text (the seventh form; the later family's looks); each row that meets fmt, with fmt's text TOLD by the authors' own Lean function (tested against real Go, not proved from fmt's source: count such statements apart). THE CARD IS WHAT COUNTS. Prove the row's statement (the work); the ties are given (YthldjgjpokjliaaDoorTie.lean); close each card by the builder's one call (the guide's Derived/Test/ToyasCard.lean, 'card_holds'). Laid BY PROGRAM, IN A SANDBOX (cutbox-door.mjs). By AI agents, Wed Nov 11 2026. No macro, syntax, notation, axiom, sorry.
-/
import Derived.Test.YthldjgjpokjliaaDoorRows
import GoSem.ClaimSeven
namespace Go.Proofs.YthldjgjpokjliaaDoor
namespace Rows

/-- THE TIED CARD OF 'testamurlaw32.ScheduleLongestSpec'. -/
def scheduleLongestSpecCard : Claim7 := { stood := { row := scheduleLongestSpecRow, standIns := [], harness := (true, "b071acca85d465ba0eeb90a4a1f7b4ef1ce65c10c0a20f0bb837912ccb589724"), looks := false }, kinds := [], alts := [], laidByText := true, laidKinds := [.data, .data], laidTests := true, laidLooks := .later }
def ScheduleLongestSpecCardSaid : Prop := Claim7.holds Tryd.pinned (.plain (OpenSpec.ofChange scheduleLongestSpecSpec)) scheduleLongestSpecCard

/-- THE TIED CARD OF 'testamurlaw32.ScheduleHallSpec'. -/
def scheduleHallSpecCard : Claim7 := { stood := { row := scheduleHallSpecRow, standIns := [], harness := (true, "b071acca85d465ba0eeb90a4a1f7b4ef1ce65c10c0a20f0bb837912ccb589724"), looks := false }, kinds := [], alts := [], laidByText := true, laidKinds := [.data, .data], laidTests := true, laidLooks := .later }
def ScheduleHallSpecCardSaid : Prop := Claim7.holds Tryd.pinned (.plain (OpenSpec.ofChange scheduleHallSpecSpec)) scheduleHallSpecCard

/-- THE TIED CARD OF 'testamurlaw32.ScheduleDecideSpec'. -/
def scheduleDecideSpecCard : Claim7 := { stood := { row := scheduleDecideSpecRow, standIns := [], harness := (true, "b071acca85d465ba0eeb90a4a1f7b4ef1ce65c10c0a20f0bb837912ccb589724"), looks := false }, kinds := [], alts := [], laidByText := true, laidKinds := [.data, .data], laidTests := true, laidLooks := .later }
def ScheduleDecideSpecCardSaid : Prop := Claim7.holds Tryd.pinned (.plain (OpenSpec.ofChange scheduleDecideSpecSpec)) scheduleDecideSpecCard

/-- THE TIED CARD OF 'testamurlaw32.ScheduleProved'. -/
def scheduleProvedCard : Claim7 := { stood := { row := scheduleProvedRow, standIns := [], harness := (true, "b071acca85d465ba0eeb90a4a1f7b4ef1ce65c10c0a20f0bb837912ccb589724"), looks := false }, kinds := [], alts := [], laidByText := true, laidKinds := [.data, .data], laidTests := true, laidLooks := .later }
def ScheduleProvedCardSaid : Prop := Claim7.holds Tryd.pinned (.plain (OpenSpec.ofChange scheduleProvedSpec)) scheduleProvedCard

/-- THE TIED CARD OF 'testamurlaw32.ScheduleNone'. -/
def scheduleNoneCard : Claim7 := { stood := { row := scheduleNoneRow, standIns := [], harness := (true, "b071acca85d465ba0eeb90a4a1f7b4ef1ce65c10c0a20f0bb837912ccb589724"), looks := false }, kinds := [], alts := [], laidByText := true, laidKinds := [.data, .data], laidTests := true, laidLooks := .later }
def ScheduleNoneCardSaid : Prop := Claim7.holds Tryd.pinned (.plain (OpenSpec.ofChange scheduleNoneSpec)) scheduleNoneCard

/-- THE TIED CARD OF 'testamurlaw32.ScheduleBest'. -/
def scheduleBestCard : Claim7 := { stood := { row := scheduleBestRow, standIns := [], harness := (true, "b071acca85d465ba0eeb90a4a1f7b4ef1ce65c10c0a20f0bb837912ccb589724"), looks := false }, kinds := [], alts := [], laidByText := true, laidKinds := [.data, .data], laidTests := true, laidLooks := .later }
def ScheduleBestCardSaid : Prop := Claim7.holds Tryd.pinned (.plain (OpenSpec.ofChange scheduleBestSpec)) scheduleBestCard

/-- THE TIED CARD OF 'testamurlaw32.ScheduleMore'. -/
def scheduleMoreCard : Claim7 := { stood := { row := scheduleMoreRow, standIns := [], harness := (true, "b071acca85d465ba0eeb90a4a1f7b4ef1ce65c10c0a20f0bb837912ccb589724"), looks := false }, kinds := [], alts := [], laidByText := true, laidKinds := [.data, .data], laidTests := true, laidLooks := .later }
def ScheduleMoreCardSaid : Prop := Claim7.holds Tryd.pinned (.plain (OpenSpec.ofChange scheduleMoreSpec)) scheduleMoreCard

/-- THE SECOND FORM's CARD OF 'testamurlaw32.ScheduleLongestSpec'. -/
def scheduleLongestSpecUptoCard : Claim7 := { stood := { row := scheduleLongestSpecUptoRow, standIns := [], harness := (true, "b071acca85d465ba0eeb90a4a1f7b4ef1ce65c10c0a20f0bb837912ccb589724"), looks := false }, kinds := [], alts := [], laidByText := true, laidKinds := [.data, .data], laidTests := true, laidLooks := .later }
def ScheduleLongestSpecUptoCardSaid : Prop := Claim7.holds Tryd.pinned (.plain (OpenSpec.upto scheduleLongestSpecSpec)) scheduleLongestSpecUptoCard

/-- THE SECOND FORM's CARD OF 'testamurlaw32.ScheduleHallSpec'. -/
def scheduleHallSpecUptoCard : Claim7 := { stood := { row := scheduleHallSpecUptoRow, standIns := [], harness := (true, "b071acca85d465ba0eeb90a4a1f7b4ef1ce65c10c0a20f0bb837912ccb589724"), looks := false }, kinds := [], alts := [], laidByText := true, laidKinds := [.data, .data], laidTests := true, laidLooks := .later }
def ScheduleHallSpecUptoCardSaid : Prop := Claim7.holds Tryd.pinned (.plain (OpenSpec.upto scheduleHallSpecSpec)) scheduleHallSpecUptoCard

/-- THE SECOND FORM's CARD OF 'testamurlaw32.ScheduleDecideSpec'. -/
def scheduleDecideSpecUptoCard : Claim7 := { stood := { row := scheduleDecideSpecUptoRow, standIns := [], harness := (true, "b071acca85d465ba0eeb90a4a1f7b4ef1ce65c10c0a20f0bb837912ccb589724"), looks := false }, kinds := [], alts := [], laidByText := true, laidKinds := [.data, .data], laidTests := true, laidLooks := .later }
def ScheduleDecideSpecUptoCardSaid : Prop := Claim7.holds Tryd.pinned (.plain (OpenSpec.upto scheduleDecideSpecSpec)) scheduleDecideSpecUptoCard

/-- THE SECOND FORM's CARD OF 'testamurlaw32.ScheduleProved'. -/
def scheduleProvedUptoCard : Claim7 := { stood := { row := scheduleProvedUptoRow, standIns := [], harness := (true, "b071acca85d465ba0eeb90a4a1f7b4ef1ce65c10c0a20f0bb837912ccb589724"), looks := false }, kinds := [], alts := [], laidByText := true, laidKinds := [.data, .data], laidTests := true, laidLooks := .later }
def ScheduleProvedUptoCardSaid : Prop := Claim7.holds Tryd.pinned (.plain (OpenSpec.upto scheduleProvedSpec)) scheduleProvedUptoCard

/-- THE SECOND FORM's CARD OF 'testamurlaw32.ScheduleNone'. -/
def scheduleNoneUptoCard : Claim7 := { stood := { row := scheduleNoneUptoRow, standIns := [], harness := (true, "b071acca85d465ba0eeb90a4a1f7b4ef1ce65c10c0a20f0bb837912ccb589724"), looks := false }, kinds := [], alts := [], laidByText := true, laidKinds := [.data, .data], laidTests := true, laidLooks := .later }
def ScheduleNoneUptoCardSaid : Prop := Claim7.holds Tryd.pinned (.plain (OpenSpec.upto scheduleNoneSpec)) scheduleNoneUptoCard

/-- THE SECOND FORM's CARD OF 'testamurlaw32.ScheduleBest'. -/
def scheduleBestUptoCard : Claim7 := { stood := { row := scheduleBestUptoRow, standIns := [], harness := (true, "b071acca85d465ba0eeb90a4a1f7b4ef1ce65c10c0a20f0bb837912ccb589724"), looks := false }, kinds := [], alts := [], laidByText := true, laidKinds := [.data, .data], laidTests := true, laidLooks := .later }
def ScheduleBestUptoCardSaid : Prop := Claim7.holds Tryd.pinned (.plain (OpenSpec.upto scheduleBestSpec)) scheduleBestUptoCard

/-- THE SECOND FORM's CARD OF 'testamurlaw32.ScheduleMore'. -/
def scheduleMoreUptoCard : Claim7 := { stood := { row := scheduleMoreUptoRow, standIns := [], harness := (true, "b071acca85d465ba0eeb90a4a1f7b4ef1ce65c10c0a20f0bb837912ccb589724"), looks := false }, kinds := [], alts := [], laidByText := true, laidKinds := [.data, .data], laidTests := true, laidLooks := .later }
def ScheduleMoreUptoCardSaid : Prop := Claim7.holds Tryd.pinned (.plain (OpenSpec.upto scheduleMoreSpec)) scheduleMoreUptoCard
end Rows
end Go.Proofs.YthldjgjpokjliaaDoor
