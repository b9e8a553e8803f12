/-
  No cell of these rows narrows 'for every input' (looked for: loops, veiled, ifaces, maps, wideKeys, modest, calm, conditions, laid).
  DERIVED. THE GIVEN ROWS OF THIS SEAT. 7 by the template 'for every input the law returns true; each argument reads behind the call as it read before'; 0 by the template 'total and deterministic' (their statements: YtmaggokcjcdllaaTotals.lean).
  GIVEN WITH THE SEED: the statements are not yours to turn. If you find one false, say at which input.
  Laid BY PROGRAM, IN A SANDBOX (cutbox-rows.mjs): the forced cells as the released guide's own fill.sh prints them over the translation 8f6e73a925523334… (all of the seat's roots in one cut). By AI agents, Wed Nov 11 2026. No macro, syntax, notation, axiom, sorry.
-/
import Derived.Test.YtmaggokcjcdllaaChecked
import GoSem.Claim
import GoSem.ClaimJoined
import GoSem.ClaimMapViews
import Derived.JoinedTies
import Derived.KernelRfl
namespace Go.Proofs.Ytmaggokcjcdllaa
/- THE CELL 'sum', in the pinned program and in every row, IS THE sha256 OF THE DUMP (.gsa) THAT YtmaggokcjcdllaaProg.lean LOADS. Nothing in Lean hashes anything: it is a label: what it is worth is what the hold of that sum in a sandbox is worth. -/
noncomputable def Try.pinned : Pinned := { name := "ytmaggokcjcdllaa", sum := "8f6e73a925523334eb1adee918efecc20a030af41283a14a01ccccff64924de2", checked := Try.checked }
namespace Rows
def none {H : Type} : Left H := { results := [], args := [] }

/-- 'testamurlaw17.RecordsSpec': WHATEVER THE INPUT: true; the input reads as it did. -/
def recordsSpecSpec : ChangeSpec := { name := "recordsSpec", fn := fun _ => fun
  | [d1, d2, d3, d4, d5, d6, d7] => { results := [.lit (.bool true)], args := [d1, d2, d3, d4, d5, d6, d7] }
  | _ => none }
def recordsSpecRow : OpenClaim := { program := "ytmaggokcjcdllaa", sum := "8f6e73a925523334eb1adee918efecc20a030af41283a14a01ccccff64924de2", func := "testamur/testamurlaw17.RecordsSpec", spec := "recordsSpec", unfollowed := true, recurses := true, plainKeys := false, apart := false }
def RecordsSpecSaid : Prop := recordsSpecRow.holds Try.pinned (OpenSpec.ofChange recordsSpecSpec)

/-- ITS FALSE NEIGHBOUR: 'it returns false'. Refute it at one input. -/
def recordsSpecWrong : ChangeSpec := { name := "recordsSpec", fn := fun _ => fun
  | [d1, d2, d3, d4, d5, d6, d7] => { results := [.lit (.bool false)], args := [d1, d2, d3, d4, d5, d6, d7] }
  | _ => none }
def RecordsSpecWrongFalsely : Prop := recordsSpecRow.holds Try.pinned (OpenSpec.ofChange recordsSpecWrong)

/-- 'testamurlaw17.RecordsAllSpec': WHATEVER THE INPUT: true; the input reads as it did. -/
def recordsAllSpecSpec : ChangeSpec := { name := "recordsAllSpec", fn := fun _ => fun
  | [d1, d2, d3, d4] => { results := [.lit (.bool true)], args := [d1, d2, d3, d4] }
  | _ => none }
def recordsAllSpecRow : OpenClaim := { program := "ytmaggokcjcdllaa", sum := "8f6e73a925523334eb1adee918efecc20a030af41283a14a01ccccff64924de2", func := "testamur/testamurlaw17.RecordsAllSpec", spec := "recordsAllSpec", unfollowed := true, recurses := true, plainKeys := false, apart := false }
def RecordsAllSpecSaid : Prop := recordsAllSpecRow.holds Try.pinned (OpenSpec.ofChange recordsAllSpecSpec)

/-- ITS FALSE NEIGHBOUR: 'it returns false'. Refute it at one input. -/
def recordsAllSpecWrong : ChangeSpec := { name := "recordsAllSpec", fn := fun _ => fun
  | [d1, d2, d3, d4] => { results := [.lit (.bool false)], args := [d1, d2, d3, d4] }
  | _ => none }
def RecordsAllSpecWrongFalsely : Prop := recordsAllSpecRow.holds Try.pinned (OpenSpec.ofChange recordsAllSpecWrong)

/-- 'testamurlaw17.RecordsPutSpec': WHATEVER THE INPUT: true; the input reads as it did. -/
def recordsPutSpecSpec : ChangeSpec := { name := "recordsPutSpec", fn := fun _ => fun
  | [d1, d2, d3, d4] => { results := [.lit (.bool true)], args := [d1, d2, d3, d4] }
  | _ => none }
def recordsPutSpecRow : OpenClaim := { program := "ytmaggokcjcdllaa", sum := "8f6e73a925523334eb1adee918efecc20a030af41283a14a01ccccff64924de2", func := "testamur/testamurlaw17.RecordsPutSpec", spec := "recordsPutSpec", unfollowed := true, recurses := true, plainKeys := false, apart := false }
def RecordsPutSpecSaid : Prop := recordsPutSpecRow.holds Try.pinned (OpenSpec.ofChange recordsPutSpecSpec)

/-- ITS FALSE NEIGHBOUR: 'it returns false'. Refute it at one input. -/
def recordsPutSpecWrong : ChangeSpec := { name := "recordsPutSpec", fn := fun _ => fun
  | [d1, d2, d3, d4] => { results := [.lit (.bool false)], args := [d1, d2, d3, d4] }
  | _ => none }
def RecordsPutSpecWrongFalsely : Prop := recordsPutSpecRow.holds Try.pinned (OpenSpec.ofChange recordsPutSpecWrong)

/-- 'testamurlaw17.RecordsBack': WHATEVER THE INPUT: true; the input reads as it did. -/
def recordsBackSpec : ChangeSpec := { name := "recordsBack", fn := fun _ => fun
  | [d1, d2, d3, d4, d5, d6, d7, d8, d9] => { results := [.lit (.bool true)], args := [d1, d2, d3, d4, d5, d6, d7, d8, d9] }
  | _ => none }
def recordsBackRow : OpenClaim := { program := "ytmaggokcjcdllaa", sum := "8f6e73a925523334eb1adee918efecc20a030af41283a14a01ccccff64924de2", func := "testamur/testamurlaw17.RecordsBack", spec := "recordsBack", unfollowed := true, recurses := true, plainKeys := false, apart := false }
def RecordsBackSaid : Prop := recordsBackRow.holds Try.pinned (OpenSpec.ofChange recordsBackSpec)

/-- ITS FALSE NEIGHBOUR: 'it returns false'. Refute it at one input. -/
def recordsBackWrong : ChangeSpec := { name := "recordsBack", fn := fun _ => fun
  | [d1, d2, d3, d4, d5, d6, d7, d8, d9] => { results := [.lit (.bool false)], args := [d1, d2, d3, d4, d5, d6, d7, d8, d9] }
  | _ => none }
def RecordsBackWrongFalsely : Prop := recordsBackRow.holds Try.pinned (OpenSpec.ofChange recordsBackWrong)

/-- 'testamurlaw17.RecordsThere': WHATEVER THE INPUT: true; the input reads as it did. -/
def recordsThereSpec : ChangeSpec := { name := "recordsThere", fn := fun _ => fun
  | [d1, d2, d3, d4] => { results := [.lit (.bool true)], args := [d1, d2, d3, d4] }
  | _ => none }
def recordsThereRow : OpenClaim := { program := "ytmaggokcjcdllaa", sum := "8f6e73a925523334eb1adee918efecc20a030af41283a14a01ccccff64924de2", func := "testamur/testamurlaw17.RecordsThere", spec := "recordsThere", unfollowed := true, recurses := true, plainKeys := false, apart := false }
def RecordsThereSaid : Prop := recordsThereRow.holds Try.pinned (OpenSpec.ofChange recordsThereSpec)

/-- ITS FALSE NEIGHBOUR: 'it returns false'. Refute it at one input. -/
def recordsThereWrong : ChangeSpec := { name := "recordsThere", fn := fun _ => fun
  | [d1, d2, d3, d4] => { results := [.lit (.bool false)], args := [d1, d2, d3, d4] }
  | _ => none }
def RecordsThereWrongFalsely : Prop := recordsThereRow.holds Try.pinned (OpenSpec.ofChange recordsThereWrong)

/-- 'testamurlaw17.RecordsPast': WHATEVER THE INPUT: true; the input reads as it did. -/
def recordsPastSpec : ChangeSpec := { name := "recordsPast", fn := fun _ => fun
  | [d1, d2, d3, d4, d5, d6] => { results := [.lit (.bool true)], args := [d1, d2, d3, d4, d5, d6] }
  | _ => none }
def recordsPastRow : OpenClaim := { program := "ytmaggokcjcdllaa", sum := "8f6e73a925523334eb1adee918efecc20a030af41283a14a01ccccff64924de2", func := "testamur/testamurlaw17.RecordsPast", spec := "recordsPast", unfollowed := true, recurses := true, plainKeys := false, apart := false }
def RecordsPastSaid : Prop := recordsPastRow.holds Try.pinned (OpenSpec.ofChange recordsPastSpec)

/-- ITS FALSE NEIGHBOUR: 'it returns false'. Refute it at one input. -/
def recordsPastWrong : ChangeSpec := { name := "recordsPast", fn := fun _ => fun
  | [d1, d2, d3, d4, d5, d6] => { results := [.lit (.bool false)], args := [d1, d2, d3, d4, d5, d6] }
  | _ => none }
def RecordsPastWrongFalsely : Prop := recordsPastRow.holds Try.pinned (OpenSpec.ofChange recordsPastWrong)

/-- 'testamurlaw17.RecordsReads': WHATEVER THE INPUT: true; the input reads as it did. -/
def recordsReadsSpec : ChangeSpec := { name := "recordsReads", fn := fun _ => fun
  | [d1, d2, d3, d4, d5, d6, d7] => { results := [.lit (.bool true)], args := [d1, d2, d3, d4, d5, d6, d7] }
  | _ => none }
def recordsReadsRow : OpenClaim := { program := "ytmaggokcjcdllaa", sum := "8f6e73a925523334eb1adee918efecc20a030af41283a14a01ccccff64924de2", func := "testamur/testamurlaw17.RecordsReads", spec := "recordsReads", unfollowed := true, recurses := true, plainKeys := false, apart := false }
def RecordsReadsSaid : Prop := recordsReadsRow.holds Try.pinned (OpenSpec.ofChange recordsReadsSpec)

/-- ITS FALSE NEIGHBOUR: 'it returns false'. Refute it at one input. -/
def recordsReadsWrong : ChangeSpec := { name := "recordsReads", fn := fun _ => fun
  | [d1, d2, d3, d4, d5, d6, d7] => { results := [.lit (.bool false)], args := [d1, d2, d3, d4, d5, d6, d7] }
  | _ => none }
def RecordsReadsWrongFalsely : Prop := recordsReadsRow.holds Try.pinned (OpenSpec.ofChange recordsReadsWrong)

/- THE SECOND FORM. 'bulk': how many values and letters a reading holds, each counted each time it is reached (what is shared counts as often as it is met; a slice's spare places count too). A statement '..UptoSaid' is the law's where the arguments, and the package variables that the reading takes, are together of bulk at most 1048576: NARROWER than '..Said'. Prove '..Said' where nothing that the law and all that it calls make is longer than what came in: it says more and counts as full. Else prove '..UptoSaid'. A law counts once. -/
mutual
def uptoBulk {H : Type} : DataW H → Nat
  | .lit (.string bytes) => bytes.length + 1
  | .lit _ => 1
  | .nil => 1
  | .ptr d => uptoBulk d + 1
  | .slice elems spare => uptoBulkAll elems + uptoBulkAll spare + 1
  | .agg parts => uptoBulkAll parts + 1
  | .iface _ d => uptoBulk d + 1
  | .map entries => uptoBulkEntries entries + 1
  | .held _ => 1
def uptoBulkAll {H : Type} : List (DataW H) → Nat
  | [] => 0
  | d :: r => uptoBulk d + uptoBulkAll r
def uptoBulkEntries {H : Type} : List (Lit × DataW H) → Nat
  | [] => 0
  | x :: r => uptoBulkEntry x + uptoBulkEntries r
def uptoBulkEntry {H : Type} : Lit × DataW H → Nat
  | (.string bytes, d) => bytes.length + uptoBulk d + 1
  | (_, d) => uptoBulk d + 1
 end
def uptoSmall : (H : Type) → List (DataW H) → Bool := fun _ ds => decide (uptoBulkAll ds ≤ 1048576)
def OpenSpec.upto (s : _root_.Go.ChangeSpec) : _root_.Go.OpenSpec := { _root_.Go.OpenSpec.ofChange s with cond := some uptoSmall }

/-- 'testamurlaw17.RecordsSpec', WHERE WHAT IT READS IS OF BULK AT MOST 1048576: true; the input reads as it did. -/
def recordsSpecUptoRow : OpenClaim := { program := "ytmaggokcjcdllaa", sum := "8f6e73a925523334eb1adee918efecc20a030af41283a14a01ccccff64924de2", func := "testamur/testamurlaw17.RecordsSpec", spec := "recordsSpec", unfollowed := true, recurses := true, plainKeys := false, apart := false, narrowed := true }
def RecordsSpecUptoSaid : Prop := recordsSpecUptoRow.holds Try.pinned (OpenSpec.upto recordsSpecSpec)

/-- 'testamurlaw17.RecordsAllSpec', WHERE WHAT IT READS IS OF BULK AT MOST 1048576: true; the input reads as it did. -/
def recordsAllSpecUptoRow : OpenClaim := { program := "ytmaggokcjcdllaa", sum := "8f6e73a925523334eb1adee918efecc20a030af41283a14a01ccccff64924de2", func := "testamur/testamurlaw17.RecordsAllSpec", spec := "recordsAllSpec", unfollowed := true, recurses := true, plainKeys := false, apart := false, narrowed := true }
def RecordsAllSpecUptoSaid : Prop := recordsAllSpecUptoRow.holds Try.pinned (OpenSpec.upto recordsAllSpecSpec)

/-- 'testamurlaw17.RecordsPutSpec', WHERE WHAT IT READS IS OF BULK AT MOST 1048576: true; the input reads as it did. -/
def recordsPutSpecUptoRow : OpenClaim := { program := "ytmaggokcjcdllaa", sum := "8f6e73a925523334eb1adee918efecc20a030af41283a14a01ccccff64924de2", func := "testamur/testamurlaw17.RecordsPutSpec", spec := "recordsPutSpec", unfollowed := true, recurses := true, plainKeys := false, apart := false, narrowed := true }
def RecordsPutSpecUptoSaid : Prop := recordsPutSpecUptoRow.holds Try.pinned (OpenSpec.upto recordsPutSpecSpec)

/-- 'testamurlaw17.RecordsBack', WHERE WHAT IT READS IS OF BULK AT MOST 1048576: true; the input reads as it did. -/
def recordsBackUptoRow : OpenClaim := { program := "ytmaggokcjcdllaa", sum := "8f6e73a925523334eb1adee918efecc20a030af41283a14a01ccccff64924de2", func := "testamur/testamurlaw17.RecordsBack", spec := "recordsBack", unfollowed := true, recurses := true, plainKeys := false, apart := false, narrowed := true }
def RecordsBackUptoSaid : Prop := recordsBackUptoRow.holds Try.pinned (OpenSpec.upto recordsBackSpec)

/-- 'testamurlaw17.RecordsThere', WHERE WHAT IT READS IS OF BULK AT MOST 1048576: true; the input reads as it did. -/
def recordsThereUptoRow : OpenClaim := { program := "ytmaggokcjcdllaa", sum := "8f6e73a925523334eb1adee918efecc20a030af41283a14a01ccccff64924de2", func := "testamur/testamurlaw17.RecordsThere", spec := "recordsThere", unfollowed := true, recurses := true, plainKeys := false, apart := false, narrowed := true }
def RecordsThereUptoSaid : Prop := recordsThereUptoRow.holds Try.pinned (OpenSpec.upto recordsThereSpec)

/-- 'testamurlaw17.RecordsPast', WHERE WHAT IT READS IS OF BULK AT MOST 1048576: true; the input reads as it did. -/
def recordsPastUptoRow : OpenClaim := { program := "ytmaggokcjcdllaa", sum := "8f6e73a925523334eb1adee918efecc20a030af41283a14a01ccccff64924de2", func := "testamur/testamurlaw17.RecordsPast", spec := "recordsPast", unfollowed := true, recurses := true, plainKeys := false, apart := false, narrowed := true }
def RecordsPastUptoSaid : Prop := recordsPastUptoRow.holds Try.pinned (OpenSpec.upto recordsPastSpec)

/-- 'testamurlaw17.RecordsReads', WHERE WHAT IT READS IS OF BULK AT MOST 1048576: true; the input reads as it did. -/
def recordsReadsUptoRow : OpenClaim := { program := "ytmaggokcjcdllaa", sum := "8f6e73a925523334eb1adee918efecc20a030af41283a14a01ccccff64924de2", func := "testamur/testamurlaw17.RecordsReads", spec := "recordsReads", unfollowed := true, recurses := true, plainKeys := false, apart := false, narrowed := true }
def RecordsReadsUptoSaid : Prop := recordsReadsUptoRow.holds Try.pinned (OpenSpec.upto recordsReadsSpec)

end Rows
end Go.Proofs.Ytmaggokcjcdllaa
