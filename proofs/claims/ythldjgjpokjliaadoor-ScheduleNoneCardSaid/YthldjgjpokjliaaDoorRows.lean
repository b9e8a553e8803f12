/-
  NARROWER THAN 'FOR EVERY INPUT', by the rows' own cells (each row's printed sentence says how): ScheduleLongestSpec: laid · ScheduleHallSpec: laid · ScheduleDecideSpec: laid · ScheduleProved: laid · ScheduleNone: laid · ScheduleBest: laid · ScheduleMore: laid.
  DERIVED. THE GIVEN ROWS OF THIS SEAT. 7 by the template 'for every input the law returns true; each argument reads behind the call as it read before'; 0 by the template 'total and deterministic' (their statements: YthldjgjpokjliaaDoorTotals.lean).
  GIVEN WITH THE SEED: the statements are not yours to turn. If you find one false, say at which input.
  Laid BY PROGRAM, IN A SANDBOX (cutbox-rows.mjs): the forced cells as the released guide's own fill.sh prints them over the translation 491f3dc7b73fbd43… (all of the seat's roots in one cut). By AI agents, Wed Nov 11 2026. No macro, syntax, notation, axiom, sorry.
-/
import Derived.Test.YthldjgjpokjliaaDoorChecked
import GoSem.Claim
import GoSem.ClaimJoined
import GoSem.ClaimMapViews
import Derived.JoinedTies
import Derived.KernelRfl
namespace Go.Proofs.YthldjgjpokjliaaDoor
/- THE CELL 'sum', in the pinned program and in every row, IS THE sha256 OF THE DUMP (.gsa) THAT YthldjgjpokjliaaDoorProg.lean LOADS. Nothing in Lean hashes anything: it is a label: what it is worth is what the hold of that sum in a sandbox is worth. -/
noncomputable def Tryd.pinned : Pinned := { name := "ythldjgjpokjliaadoor", sum := "491f3dc7b73fbd433657de373ff55cf433953aef8391e039d41481e4974a6bb0", checked := Tryd.checked }
namespace Rows
def none {H : Type} : Left H := { results := [], args := [] }

/- WHAT THE LISTED PACKAGE-LEVEL VARIABLES READ AS WHEN THE CALL BEGINS. Each datum BY PROGRAM (the guide's laid-datum.mjs) off the statement by which the dump's own 'gosem.cut.vars' lays the variable. In a bare row this is a premise. The card (YthldjgjpokjliaaDoorCards.lean) ties it to the program's text. -/
def laid_math_bits_deBruijn32tab {H : Type} : DataW H := .agg [.lit (.int .u8 0), .lit (.int .u8 1), .lit (.int .u8 28), .lit (.int .u8 2), .lit (.int .u8 29), .lit (.int .u8 14), .lit (.int .u8 24), .lit (.int .u8 3), .lit (.int .u8 30), .lit (.int .u8 22), .lit (.int .u8 20), .lit (.int .u8 15), .lit (.int .u8 25), .lit (.int .u8 17), .lit (.int .u8 4), .lit (.int .u8 8), .lit (.int .u8 31), .lit (.int .u8 27), .lit (.int .u8 13), .lit (.int .u8 23), .lit (.int .u8 21), .lit (.int .u8 19), .lit (.int .u8 16), .lit (.int .u8 7), .lit (.int .u8 26), .lit (.int .u8 12), .lit (.int .u8 18), .lit (.int .u8 6), .lit (.int .u8 11), .lit (.int .u8 5), .lit (.int .u8 10), .lit (.int .u8 9)]
def laid_math_bits_deBruijn64tab {H : Type} : DataW H := .agg [.lit (.int .u8 0), .lit (.int .u8 1), .lit (.int .u8 56), .lit (.int .u8 2), .lit (.int .u8 57), .lit (.int .u8 49), .lit (.int .u8 28), .lit (.int .u8 3), .lit (.int .u8 61), .lit (.int .u8 58), .lit (.int .u8 42), .lit (.int .u8 50), .lit (.int .u8 38), .lit (.int .u8 29), .lit (.int .u8 17), .lit (.int .u8 4), .lit (.int .u8 62), .lit (.int .u8 47), .lit (.int .u8 59), .lit (.int .u8 36), .lit (.int .u8 45), .lit (.int .u8 43), .lit (.int .u8 51), .lit (.int .u8 22), .lit (.int .u8 53), .lit (.int .u8 39), .lit (.int .u8 33), .lit (.int .u8 30), .lit (.int .u8 24), .lit (.int .u8 18), .lit (.int .u8 12), .lit (.int .u8 5), .lit (.int .u8 63), .lit (.int .u8 55), .lit (.int .u8 48), .lit (.int .u8 27), .lit (.int .u8 60), .lit (.int .u8 41), .lit (.int .u8 37), .lit (.int .u8 16), .lit (.int .u8 46), .lit (.int .u8 35), .lit (.int .u8 44), .lit (.int .u8 21), .lit (.int .u8 52), .lit (.int .u8 32), .lit (.int .u8 23), .lit (.int .u8 11), .lit (.int .u8 54), .lit (.int .u8 26), .lit (.int .u8 40), .lit (.int .u8 15), .lit (.int .u8 34), .lit (.int .u8 20), .lit (.int .u8 31), .lit (.int .u8 10), .lit (.int .u8 25), .lit (.int .u8 14), .lit (.int .u8 19), .lit (.int .u8 9), .lit (.int .u8 13), .lit (.int .u8 8), .lit (.int .u8 7), .lit (.int .u8 6)]

/-- 'testamurlaw32.ScheduleLongestSpec': WHATEVER THE INPUT: true; the input reads as it did. -/
def scheduleLongestSpecSpec : ChangeSpec := { name := "scheduleLongestSpec", fn := fun _ => fun
  | [d1, d2] => { results := [.lit (.bool true)], args := [d1, d2] }
  | _ => none }
def scheduleLongestSpecRow : OpenClaim := { program := "ythldjgjpokjliaadoor", sum := "491f3dc7b73fbd433657de373ff55cf433953aef8391e039d41481e4974a6bb0", func := "testamur/testamurlaw32.ScheduleLongestSpec", spec := "scheduleLongestSpec", unfollowed := true, recurses := true, named := ["math/bits.deBruijn64tab", "math/bits.deBruijn32tab"], apart := false, laid := [("math/bits.deBruijn32tab", laid_math_bits_deBruijn32tab), ("math/bits.deBruijn64tab", laid_math_bits_deBruijn64tab)] }
def ScheduleLongestSpecSaid : Prop := scheduleLongestSpecRow.holds Tryd.pinned (OpenSpec.ofChange scheduleLongestSpecSpec)

/-- ITS FALSE NEIGHBOUR: 'it returns false'. Refute it at one input. -/
def scheduleLongestSpecWrong : ChangeSpec := { name := "scheduleLongestSpec", fn := fun _ => fun
  | [d1, d2] => { results := [.lit (.bool false)], args := [d1, d2] }
  | _ => none }
def ScheduleLongestSpecWrongFalsely : Prop := scheduleLongestSpecRow.holds Tryd.pinned (OpenSpec.ofChange scheduleLongestSpecWrong)

/-- 'testamurlaw32.ScheduleHallSpec': WHATEVER THE INPUT: true; the input reads as it did. -/
def scheduleHallSpecSpec : ChangeSpec := { name := "scheduleHallSpec", fn := fun _ => fun
  | [d1, d2] => { results := [.lit (.bool true)], args := [d1, d2] }
  | _ => none }
def scheduleHallSpecRow : OpenClaim := { program := "ythldjgjpokjliaadoor", sum := "491f3dc7b73fbd433657de373ff55cf433953aef8391e039d41481e4974a6bb0", func := "testamur/testamurlaw32.ScheduleHallSpec", spec := "scheduleHallSpec", unfollowed := true, recurses := true, named := ["math/bits.deBruijn64tab", "math/bits.deBruijn32tab"], apart := false, laid := [("math/bits.deBruijn32tab", laid_math_bits_deBruijn32tab), ("math/bits.deBruijn64tab", laid_math_bits_deBruijn64tab)] }
def ScheduleHallSpecSaid : Prop := scheduleHallSpecRow.holds Tryd.pinned (OpenSpec.ofChange scheduleHallSpecSpec)

/-- ITS FALSE NEIGHBOUR: 'it returns false'. Refute it at one input. -/
def scheduleHallSpecWrong : ChangeSpec := { name := "scheduleHallSpec", fn := fun _ => fun
  | [d1, d2] => { results := [.lit (.bool false)], args := [d1, d2] }
  | _ => none }
def ScheduleHallSpecWrongFalsely : Prop := scheduleHallSpecRow.holds Tryd.pinned (OpenSpec.ofChange scheduleHallSpecWrong)

/-- 'testamurlaw32.ScheduleDecideSpec': WHATEVER THE INPUT: true; the input reads as it did. -/
def scheduleDecideSpecSpec : ChangeSpec := { name := "scheduleDecideSpec", fn := fun _ => fun
  | [d1, d2, d3, d4] => { results := [.lit (.bool true)], args := [d1, d2, d3, d4] }
  | _ => none }
def scheduleDecideSpecRow : OpenClaim := { program := "ythldjgjpokjliaadoor", sum := "491f3dc7b73fbd433657de373ff55cf433953aef8391e039d41481e4974a6bb0", func := "testamur/testamurlaw32.ScheduleDecideSpec", spec := "scheduleDecideSpec", unfollowed := true, recurses := true, named := ["math/bits.deBruijn64tab", "math/bits.deBruijn32tab"], apart := false, laid := [("math/bits.deBruijn32tab", laid_math_bits_deBruijn32tab), ("math/bits.deBruijn64tab", laid_math_bits_deBruijn64tab)] }
def ScheduleDecideSpecSaid : Prop := scheduleDecideSpecRow.holds Tryd.pinned (OpenSpec.ofChange scheduleDecideSpecSpec)

/-- ITS FALSE NEIGHBOUR: 'it returns false'. Refute it at one input. -/
def scheduleDecideSpecWrong : ChangeSpec := { name := "scheduleDecideSpec", fn := fun _ => fun
  | [d1, d2, d3, d4] => { results := [.lit (.bool false)], args := [d1, d2, d3, d4] }
  | _ => none }
def ScheduleDecideSpecWrongFalsely : Prop := scheduleDecideSpecRow.holds Tryd.pinned (OpenSpec.ofChange scheduleDecideSpecWrong)

/-- 'testamurlaw32.ScheduleProved': WHATEVER THE INPUT: true; the input reads as it did. -/
def scheduleProvedSpec : ChangeSpec := { name := "scheduleProved", fn := fun _ => fun
  | [d1, d2] => { results := [.lit (.bool true)], args := [d1, d2] }
  | _ => none }
def scheduleProvedRow : OpenClaim := { program := "ythldjgjpokjliaadoor", sum := "491f3dc7b73fbd433657de373ff55cf433953aef8391e039d41481e4974a6bb0", func := "testamur/testamurlaw32.ScheduleProved", spec := "scheduleProved", unfollowed := true, recurses := true, named := ["math/bits.deBruijn64tab", "math/bits.deBruijn32tab"], apart := false, laid := [("math/bits.deBruijn32tab", laid_math_bits_deBruijn32tab), ("math/bits.deBruijn64tab", laid_math_bits_deBruijn64tab)] }
def ScheduleProvedSaid : Prop := scheduleProvedRow.holds Tryd.pinned (OpenSpec.ofChange scheduleProvedSpec)

/-- ITS FALSE NEIGHBOUR: 'it returns false'. Refute it at one input. -/
def scheduleProvedWrong : ChangeSpec := { name := "scheduleProved", fn := fun _ => fun
  | [d1, d2] => { results := [.lit (.bool false)], args := [d1, d2] }
  | _ => none }
def ScheduleProvedWrongFalsely : Prop := scheduleProvedRow.holds Tryd.pinned (OpenSpec.ofChange scheduleProvedWrong)

/-- 'testamurlaw32.ScheduleNone': WHATEVER THE INPUT: true; the input reads as it did. -/
def scheduleNoneSpec : ChangeSpec := { name := "scheduleNone", fn := fun _ => fun
  | [d1, d2, d3] => { results := [.lit (.bool true)], args := [d1, d2, d3] }
  | _ => none }
def scheduleNoneRow : OpenClaim := { program := "ythldjgjpokjliaadoor", sum := "491f3dc7b73fbd433657de373ff55cf433953aef8391e039d41481e4974a6bb0", func := "testamur/testamurlaw32.ScheduleNone", spec := "scheduleNone", unfollowed := true, recurses := true, named := ["math/bits.deBruijn64tab", "math/bits.deBruijn32tab"], apart := false, laid := [("math/bits.deBruijn32tab", laid_math_bits_deBruijn32tab), ("math/bits.deBruijn64tab", laid_math_bits_deBruijn64tab)] }
def ScheduleNoneSaid : Prop := scheduleNoneRow.holds Tryd.pinned (OpenSpec.ofChange scheduleNoneSpec)

/-- ITS FALSE NEIGHBOUR: 'it returns false'. Refute it at one input. -/
def scheduleNoneWrong : ChangeSpec := { name := "scheduleNone", fn := fun _ => fun
  | [d1, d2, d3] => { results := [.lit (.bool false)], args := [d1, d2, d3] }
  | _ => none }
def ScheduleNoneWrongFalsely : Prop := scheduleNoneRow.holds Tryd.pinned (OpenSpec.ofChange scheduleNoneWrong)

/-- 'testamurlaw32.ScheduleBest': WHATEVER THE INPUT: true; the input reads as it did. -/
def scheduleBestSpec : ChangeSpec := { name := "scheduleBest", fn := fun _ => fun
  | [d1, d2, d3, d4] => { results := [.lit (.bool true)], args := [d1, d2, d3, d4] }
  | _ => none }
def scheduleBestRow : OpenClaim := { program := "ythldjgjpokjliaadoor", sum := "491f3dc7b73fbd433657de373ff55cf433953aef8391e039d41481e4974a6bb0", func := "testamur/testamurlaw32.ScheduleBest", spec := "scheduleBest", unfollowed := true, recurses := true, named := ["math/bits.deBruijn64tab", "math/bits.deBruijn32tab"], apart := false, laid := [("math/bits.deBruijn32tab", laid_math_bits_deBruijn32tab), ("math/bits.deBruijn64tab", laid_math_bits_deBruijn64tab)] }
def ScheduleBestSaid : Prop := scheduleBestRow.holds Tryd.pinned (OpenSpec.ofChange scheduleBestSpec)

/-- ITS FALSE NEIGHBOUR: 'it returns false'. Refute it at one input. -/
def scheduleBestWrong : ChangeSpec := { name := "scheduleBest", fn := fun _ => fun
  | [d1, d2, d3, d4] => { results := [.lit (.bool false)], args := [d1, d2, d3, d4] }
  | _ => none }
def ScheduleBestWrongFalsely : Prop := scheduleBestRow.holds Tryd.pinned (OpenSpec.ofChange scheduleBestWrong)

/-- 'testamurlaw32.ScheduleMore': WHATEVER THE INPUT: true; the input reads as it did. -/
def scheduleMoreSpec : ChangeSpec := { name := "scheduleMore", fn := fun _ => fun
  | [d1, d2, d3, d4, d5, d6] => { results := [.lit (.bool true)], args := [d1, d2, d3, d4, d5, d6] }
  | _ => none }
def scheduleMoreRow : OpenClaim := { program := "ythldjgjpokjliaadoor", sum := "491f3dc7b73fbd433657de373ff55cf433953aef8391e039d41481e4974a6bb0", func := "testamur/testamurlaw32.ScheduleMore", spec := "scheduleMore", unfollowed := true, recurses := true, named := ["math/bits.deBruijn64tab", "math/bits.deBruijn32tab"], apart := false, laid := [("math/bits.deBruijn32tab", laid_math_bits_deBruijn32tab), ("math/bits.deBruijn64tab", laid_math_bits_deBruijn64tab)] }
def ScheduleMoreSaid : Prop := scheduleMoreRow.holds Tryd.pinned (OpenSpec.ofChange scheduleMoreSpec)

/-- ITS FALSE NEIGHBOUR: 'it returns false'. Refute it at one input. -/
def scheduleMoreWrong : ChangeSpec := { name := "scheduleMore", fn := fun _ => fun
  | [d1, d2, d3, d4, d5, d6] => { results := [.lit (.bool false)], args := [d1, d2, d3, d4, d5, d6] }
  | _ => none }
def ScheduleMoreWrongFalsely : Prop := scheduleMoreRow.holds Tryd.pinned (OpenSpec.ofChange scheduleMoreWrong)

/- THE SECOND FORM. 'bulk': how many values and letters a reading holds, each counted each time it is reached (what is shared counts as often as it is met; a slice's spare places count too). A statement '..UptoSaid' is the law's where the arguments, and the package variables that the reading takes, are together of bulk at most 1048576: NARROWER than '..Said'. Prove '..Said' where nothing that the law and all that it calls make is longer than what came in: it says more and counts as full. Else prove '..UptoSaid'. A law counts once. -/
mutual
def uptoBulk {H : Type} : DataW H → Nat
  | .lit (.string bytes) => bytes.length + 1
  | .lit _ => 1
  | .nil => 1
  | .ptr d => uptoBulk d + 1
  | .slice elems spare => uptoBulkAll elems + uptoBulkAll spare + 1
  | .agg parts => uptoBulkAll parts + 1
  | .iface _ d => uptoBulk d + 1
  | .map entries => uptoBulkEntries entries + 1
  | .held _ => 1
def uptoBulkAll {H : Type} : List (DataW H) → Nat
  | [] => 0
  | d :: r => uptoBulk d + uptoBulkAll r
def uptoBulkEntries {H : Type} : List (Lit × DataW H) → Nat
  | [] => 0
  | x :: r => uptoBulkEntry x + uptoBulkEntries r
def uptoBulkEntry {H : Type} : Lit × DataW H → Nat
  | (.string bytes, d) => bytes.length + uptoBulk d + 1
  | (_, d) => uptoBulk d + 1
 end
def uptoSmall : (H : Type) → List (DataW H) → Bool := fun _ ds => decide (uptoBulkAll ds ≤ 1048576)
def OpenSpec.upto (s : _root_.Go.ChangeSpec) : _root_.Go.OpenSpec := { _root_.Go.OpenSpec.ofChange s with cond := some uptoSmall }

/-- 'testamurlaw32.ScheduleLongestSpec', WHERE WHAT IT READS IS OF BULK AT MOST 1048576: true; the input reads as it did. -/
def scheduleLongestSpecUptoRow : OpenClaim := { program := "ythldjgjpokjliaadoor", sum := "491f3dc7b73fbd433657de373ff55cf433953aef8391e039d41481e4974a6bb0", func := "testamur/testamurlaw32.ScheduleLongestSpec", spec := "scheduleLongestSpec", unfollowed := true, recurses := true, named := ["math/bits.deBruijn64tab", "math/bits.deBruijn32tab"], apart := false, laid := [("math/bits.deBruijn32tab", laid_math_bits_deBruijn32tab), ("math/bits.deBruijn64tab", laid_math_bits_deBruijn64tab)], narrowed := true }
def ScheduleLongestSpecUptoSaid : Prop := scheduleLongestSpecUptoRow.holds Tryd.pinned (OpenSpec.upto scheduleLongestSpecSpec)

/-- 'testamurlaw32.ScheduleHallSpec', WHERE WHAT IT READS IS OF BULK AT MOST 1048576: true; the input reads as it did. -/
def scheduleHallSpecUptoRow : OpenClaim := { program := "ythldjgjpokjliaadoor", sum := "491f3dc7b73fbd433657de373ff55cf433953aef8391e039d41481e4974a6bb0", func := "testamur/testamurlaw32.ScheduleHallSpec", spec := "scheduleHallSpec", unfollowed := true, recurses := true, named := ["math/bits.deBruijn64tab", "math/bits.deBruijn32tab"], apart := false, laid := [("math/bits.deBruijn32tab", laid_math_bits_deBruijn32tab), ("math/bits.deBruijn64tab", laid_math_bits_deBruijn64tab)], narrowed := true }
def ScheduleHallSpecUptoSaid : Prop := scheduleHallSpecUptoRow.holds Tryd.pinned (OpenSpec.upto scheduleHallSpecSpec)

/-- 'testamurlaw32.ScheduleDecideSpec', WHERE WHAT IT READS IS OF BULK AT MOST 1048576: true; the input reads as it did. -/
def scheduleDecideSpecUptoRow : OpenClaim := { program := "ythldjgjpokjliaadoor", sum := "491f3dc7b73fbd433657de373ff55cf433953aef8391e039d41481e4974a6bb0", func := "testamur/testamurlaw32.ScheduleDecideSpec", spec := "scheduleDecideSpec", unfollowed := true, recurses := true, named := ["math/bits.deBruijn64tab", "math/bits.deBruijn32tab"], apart := false, laid := [("math/bits.deBruijn32tab", laid_math_bits_deBruijn32tab), ("math/bits.deBruijn64tab", laid_math_bits_deBruijn64tab)], narrowed := true }
def ScheduleDecideSpecUptoSaid : Prop := scheduleDecideSpecUptoRow.holds Tryd.pinned (OpenSpec.upto scheduleDecideSpecSpec)

/-- 'testamurlaw32.ScheduleProved', WHERE WHAT IT READS IS OF BULK AT MOST 1048576: true; the input reads as it did. -/
def scheduleProvedUptoRow : OpenClaim := { program := "ythldjgjpokjliaadoor", sum := "491f3dc7b73fbd433657de373ff55cf433953aef8391e039d41481e4974a6bb0", func := "testamur/testamurlaw32.ScheduleProved", spec := "scheduleProved", unfollowed := true, recurses := true, named := ["math/bits.deBruijn64tab", "math/bits.deBruijn32tab"], apart := false, laid := [("math/bits.deBruijn32tab", laid_math_bits_deBruijn32tab), ("math/bits.deBruijn64tab", laid_math_bits_deBruijn64tab)], narrowed := true }
def ScheduleProvedUptoSaid : Prop := scheduleProvedUptoRow.holds Tryd.pinned (OpenSpec.upto scheduleProvedSpec)

/-- 'testamurlaw32.ScheduleNone', WHERE WHAT IT READS IS OF BULK AT MOST 1048576: true; the input reads as it did. -/
def scheduleNoneUptoRow : OpenClaim := { program := "ythldjgjpokjliaadoor", sum := "491f3dc7b73fbd433657de373ff55cf433953aef8391e039d41481e4974a6bb0", func := "testamur/testamurlaw32.ScheduleNone", spec := "scheduleNone", unfollowed := true, recurses := true, named := ["math/bits.deBruijn64tab", "math/bits.deBruijn32tab"], apart := false, laid := [("math/bits.deBruijn32tab", laid_math_bits_deBruijn32tab), ("math/bits.deBruijn64tab", laid_math_bits_deBruijn64tab)], narrowed := true }
def ScheduleNoneUptoSaid : Prop := scheduleNoneUptoRow.holds Tryd.pinned (OpenSpec.upto scheduleNoneSpec)

/-- 'testamurlaw32.ScheduleBest', WHERE WHAT IT READS IS OF BULK AT MOST 1048576: true; the input reads as it did. -/
def scheduleBestUptoRow : OpenClaim := { program := "ythldjgjpokjliaadoor", sum := "491f3dc7b73fbd433657de373ff55cf433953aef8391e039d41481e4974a6bb0", func := "testamur/testamurlaw32.ScheduleBest", spec := "scheduleBest", unfollowed := true, recurses := true, named := ["math/bits.deBruijn64tab", "math/bits.deBruijn32tab"], apart := false, laid := [("math/bits.deBruijn32tab", laid_math_bits_deBruijn32tab), ("math/bits.deBruijn64tab", laid_math_bits_deBruijn64tab)], narrowed := true }
def ScheduleBestUptoSaid : Prop := scheduleBestUptoRow.holds Tryd.pinned (OpenSpec.upto scheduleBestSpec)

/-- 'testamurlaw32.ScheduleMore', WHERE WHAT IT READS IS OF BULK AT MOST 1048576: true; the input reads as it did. -/
def scheduleMoreUptoRow : OpenClaim := { program := "ythldjgjpokjliaadoor", sum := "491f3dc7b73fbd433657de373ff55cf433953aef8391e039d41481e4974a6bb0", func := "testamur/testamurlaw32.ScheduleMore", spec := "scheduleMore", unfollowed := true, recurses := true, named := ["math/bits.deBruijn64tab", "math/bits.deBruijn32tab"], apart := false, laid := [("math/bits.deBruijn32tab", laid_math_bits_deBruijn32tab), ("math/bits.deBruijn64tab", laid_math_bits_deBruijn64tab)], narrowed := true }
def ScheduleMoreUptoSaid : Prop := scheduleMoreUptoRow.holds Tryd.pinned (OpenSpec.upto scheduleMoreSpec)

end Rows
end Go.Proofs.YthldjgjpokjliaaDoor
