/-
  No cell of these rows narrows 'for every input' (looked for: loops, veiled, ifaces, maps, wideKeys, modest, calm, conditions, laid).
  DERIVED. THE GIVEN ROWS OF THIS SEAT. 6 by the template 'for every input the law returns true; each argument reads behind the call as it read before'; 0 by the template 'total and deterministic' (their statements: YtihbkbioafdhjaaTotals.lean).
  GIVEN WITH THE SEED: the statements are not yours to turn. If you find one false, say at which input.
  Laid BY PROGRAM, IN A SANDBOX (cutbox-rows.mjs): the forced cells as the released guide's own fill.sh prints them over the translation ff20e4ac66928de1… (all of the seat's roots in one cut). By AI agents, Wed Nov 11 2026. No macro, syntax, notation, axiom, sorry.
-/
import Derived.Test.YtihbkbioafdhjaaChecked
import GoSem.Claim
import GoSem.ClaimJoined
import GoSem.ClaimMapViews
import Derived.JoinedTies
import Derived.KernelRfl
namespace Go.Proofs.Ytihbkbioafdhjaa
/- THE CELL 'sum', in the pinned program and in every row, IS THE sha256 OF THE DUMP (.gsa) THAT YtihbkbioafdhjaaProg.lean LOADS. Nothing in Lean hashes anything: it is a label: what it is worth is what the hold of that sum in a sandbox is worth. -/
noncomputable def Try.pinned : Pinned := { name := "ytihbkbioafdhjaa", sum := "ff20e4ac66928de1711370da4f54c0880fc57968e5e9e50690137046825c8ce3", checked := Try.checked }
namespace Rows
def none {H : Type} : Left H := { results := [], args := [] }

/-- 'testamurlaw15.VersionsForwardSpec': WHATEVER THE INPUT: true; the input reads as it did. -/
def versionsForwardSpecSpec : ChangeSpec := { name := "versionsForwardSpec", fn := fun _ => fun
  | [d1, d2, d3] => { results := [.lit (.bool true)], args := [d1, d2, d3] }
  | _ => none }
def versionsForwardSpecRow : OpenClaim := { program := "ytihbkbioafdhjaa", sum := "ff20e4ac66928de1711370da4f54c0880fc57968e5e9e50690137046825c8ce3", func := "testamur/testamurlaw15.VersionsForwardSpec", spec := "versionsForwardSpec", unfollowed := true, recurses := true, apart := false }
def VersionsForwardSpecSaid : Prop := versionsForwardSpecRow.holds Try.pinned (OpenSpec.ofChange versionsForwardSpecSpec)

/-- ITS FALSE NEIGHBOUR: 'it returns false'. Refute it at one input. -/
def versionsForwardSpecWrong : ChangeSpec := { name := "versionsForwardSpec", fn := fun _ => fun
  | [d1, d2, d3] => { results := [.lit (.bool false)], args := [d1, d2, d3] }
  | _ => none }
def VersionsForwardSpecWrongFalsely : Prop := versionsForwardSpecRow.holds Try.pinned (OpenSpec.ofChange versionsForwardSpecWrong)

/-- 'testamurlaw15.VersionsWaySpec': WHATEVER THE INPUT: true; the input reads as it did. -/
def versionsWaySpecSpec : ChangeSpec := { name := "versionsWaySpec", fn := fun _ => fun
  | [d1, d2, d3, d4, d5] => { results := [.lit (.bool true)], args := [d1, d2, d3, d4, d5] }
  | _ => none }
def versionsWaySpecRow : OpenClaim := { program := "ytihbkbioafdhjaa", sum := "ff20e4ac66928de1711370da4f54c0880fc57968e5e9e50690137046825c8ce3", func := "testamur/testamurlaw15.VersionsWaySpec", spec := "versionsWaySpec", unfollowed := true, recurses := true, apart := false }
def VersionsWaySpecSaid : Prop := versionsWaySpecRow.holds Try.pinned (OpenSpec.ofChange versionsWaySpecSpec)

/-- ITS FALSE NEIGHBOUR: 'it returns false'. Refute it at one input. -/
def versionsWaySpecWrong : ChangeSpec := { name := "versionsWaySpec", fn := fun _ => fun
  | [d1, d2, d3, d4, d5] => { results := [.lit (.bool false)], args := [d1, d2, d3, d4, d5] }
  | _ => none }
def VersionsWaySpecWrongFalsely : Prop := versionsWaySpecRow.holds Try.pinned (OpenSpec.ofChange versionsWaySpecWrong)

/-- 'testamurlaw15.VersionsBack': WHATEVER THE INPUT: true; the input reads as it did. -/
def versionsBackSpec : ChangeSpec := { name := "versionsBack", fn := fun _ => fun
  | [d1, d2, d3] => { results := [.lit (.bool true)], args := [d1, d2, d3] }
  | _ => none }
def versionsBackRow : OpenClaim := { program := "ytihbkbioafdhjaa", sum := "ff20e4ac66928de1711370da4f54c0880fc57968e5e9e50690137046825c8ce3", func := "testamur/testamurlaw15.VersionsBack", spec := "versionsBack", unfollowed := true, recurses := true, apart := false }
def VersionsBackSaid : Prop := versionsBackRow.holds Try.pinned (OpenSpec.ofChange versionsBackSpec)

/-- ITS FALSE NEIGHBOUR: 'it returns false'. Refute it at one input. -/
def versionsBackWrong : ChangeSpec := { name := "versionsBack", fn := fun _ => fun
  | [d1, d2, d3] => { results := [.lit (.bool false)], args := [d1, d2, d3] }
  | _ => none }
def VersionsBackWrongFalsely : Prop := versionsBackRow.holds Try.pinned (OpenSpec.ofChange versionsBackWrong)

/-- 'testamurlaw15.VersionsSome': WHATEVER THE INPUT: true; the input reads as it did. -/
def versionsSomeSpec : ChangeSpec := { name := "versionsSome", fn := fun _ => fun
  | [d1, d2, d3, d4] => { results := [.lit (.bool true)], args := [d1, d2, d3, d4] }
  | _ => none }
def versionsSomeRow : OpenClaim := { program := "ytihbkbioafdhjaa", sum := "ff20e4ac66928de1711370da4f54c0880fc57968e5e9e50690137046825c8ce3", func := "testamur/testamurlaw15.VersionsSome", spec := "versionsSome", unfollowed := true, recurses := true, apart := false }
def VersionsSomeSaid : Prop := versionsSomeRow.holds Try.pinned (OpenSpec.ofChange versionsSomeSpec)

/-- ITS FALSE NEIGHBOUR: 'it returns false'. Refute it at one input. -/
def versionsSomeWrong : ChangeSpec := { name := "versionsSome", fn := fun _ => fun
  | [d1, d2, d3, d4] => { results := [.lit (.bool false)], args := [d1, d2, d3, d4] }
  | _ => none }
def VersionsSomeWrongFalsely : Prop := versionsSomeRow.holds Try.pinned (OpenSpec.ofChange versionsSomeWrong)

/-- 'testamurlaw15.VersionsAround': WHATEVER THE INPUT: true; the input reads as it did. -/
def versionsAroundSpec : ChangeSpec := { name := "versionsAround", fn := fun _ => fun
  | [d1, d2, d3] => { results := [.lit (.bool true)], args := [d1, d2, d3] }
  | _ => none }
def versionsAroundRow : OpenClaim := { program := "ytihbkbioafdhjaa", sum := "ff20e4ac66928de1711370da4f54c0880fc57968e5e9e50690137046825c8ce3", func := "testamur/testamurlaw15.VersionsAround", spec := "versionsAround", unfollowed := true, recurses := true, apart := false }
def VersionsAroundSaid : Prop := versionsAroundRow.holds Try.pinned (OpenSpec.ofChange versionsAroundSpec)

/-- ITS FALSE NEIGHBOUR: 'it returns false'. Refute it at one input. -/
def versionsAroundWrong : ChangeSpec := { name := "versionsAround", fn := fun _ => fun
  | [d1, d2, d3] => { results := [.lit (.bool false)], args := [d1, d2, d3] }
  | _ => none }
def VersionsAroundWrongFalsely : Prop := versionsAroundRow.holds Try.pinned (OpenSpec.ofChange versionsAroundWrong)

/-- 'testamurlaw15.VersionsValid': WHATEVER THE INPUT: true; the input reads as it did. -/
def versionsValidSpec : ChangeSpec := { name := "versionsValid", fn := fun _ => fun
  | [d1, d2, d3] => { results := [.lit (.bool true)], args := [d1, d2, d3] }
  | _ => none }
def versionsValidRow : OpenClaim := { program := "ytihbkbioafdhjaa", sum := "ff20e4ac66928de1711370da4f54c0880fc57968e5e9e50690137046825c8ce3", func := "testamur/testamurlaw15.VersionsValid", spec := "versionsValid", unfollowed := true, recurses := true, apart := false }
def VersionsValidSaid : Prop := versionsValidRow.holds Try.pinned (OpenSpec.ofChange versionsValidSpec)

/-- ITS FALSE NEIGHBOUR: 'it returns false'. Refute it at one input. -/
def versionsValidWrong : ChangeSpec := { name := "versionsValid", fn := fun _ => fun
  | [d1, d2, d3] => { results := [.lit (.bool false)], args := [d1, d2, d3] }
  | _ => none }
def VersionsValidWrongFalsely : Prop := versionsValidRow.holds Try.pinned (OpenSpec.ofChange versionsValidWrong)

/- THE SECOND FORM. 'bulk': how many values and letters a reading holds, each counted each time it is reached (what is shared counts as often as it is met; a slice's spare places count too). A statement '..UptoSaid' is the law's where the arguments, and the package variables that the reading takes, are together of bulk at most 1048576: NARROWER than '..Said'. Prove '..Said' where nothing that the law and all that it calls make is longer than what came in: it says more and counts as full. Else prove '..UptoSaid'. A law counts once. -/
mutual
def uptoBulk {H : Type} : DataW H → Nat
  | .lit (.string bytes) => bytes.length + 1
  | .lit _ => 1
  | .nil => 1
  | .ptr d => uptoBulk d + 1
  | .slice elems spare => uptoBulkAll elems + uptoBulkAll spare + 1
  | .agg parts => uptoBulkAll parts + 1
  | .iface _ d => uptoBulk d + 1
  | .map entries => uptoBulkEntries entries + 1
  | .held _ => 1
def uptoBulkAll {H : Type} : List (DataW H) → Nat
  | [] => 0
  | d :: r => uptoBulk d + uptoBulkAll r
def uptoBulkEntries {H : Type} : List (Lit × DataW H) → Nat
  | [] => 0
  | x :: r => uptoBulkEntry x + uptoBulkEntries r
def uptoBulkEntry {H : Type} : Lit × DataW H → Nat
  | (.string bytes, d) => bytes.length + uptoBulk d + 1
  | (_, d) => uptoBulk d + 1
 end
def uptoSmall : (H : Type) → List (DataW H) → Bool := fun _ ds => decide (uptoBulkAll ds ≤ 1048576)
def OpenSpec.upto (s : _root_.Go.ChangeSpec) : _root_.Go.OpenSpec := { _root_.Go.OpenSpec.ofChange s with cond := some uptoSmall }

/-- 'testamurlaw15.VersionsForwardSpec', WHERE WHAT IT READS IS OF BULK AT MOST 1048576: true; the input reads as it did. -/
def versionsForwardSpecUptoRow : OpenClaim := { program := "ytihbkbioafdhjaa", sum := "ff20e4ac66928de1711370da4f54c0880fc57968e5e9e50690137046825c8ce3", func := "testamur/testamurlaw15.VersionsForwardSpec", spec := "versionsForwardSpec", unfollowed := true, recurses := true, apart := false, narrowed := true }
def VersionsForwardSpecUptoSaid : Prop := versionsForwardSpecUptoRow.holds Try.pinned (OpenSpec.upto versionsForwardSpecSpec)

/-- 'testamurlaw15.VersionsWaySpec', WHERE WHAT IT READS IS OF BULK AT MOST 1048576: true; the input reads as it did. -/
def versionsWaySpecUptoRow : OpenClaim := { program := "ytihbkbioafdhjaa", sum := "ff20e4ac66928de1711370da4f54c0880fc57968e5e9e50690137046825c8ce3", func := "testamur/testamurlaw15.VersionsWaySpec", spec := "versionsWaySpec", unfollowed := true, recurses := true, apart := false, narrowed := true }
def VersionsWaySpecUptoSaid : Prop := versionsWaySpecUptoRow.holds Try.pinned (OpenSpec.upto versionsWaySpecSpec)

/-- 'testamurlaw15.VersionsBack', WHERE WHAT IT READS IS OF BULK AT MOST 1048576: true; the input reads as it did. -/
def versionsBackUptoRow : OpenClaim := { program := "ytihbkbioafdhjaa", sum := "ff20e4ac66928de1711370da4f54c0880fc57968e5e9e50690137046825c8ce3", func := "testamur/testamurlaw15.VersionsBack", spec := "versionsBack", unfollowed := true, recurses := true, apart := false, narrowed := true }
def VersionsBackUptoSaid : Prop := versionsBackUptoRow.holds Try.pinned (OpenSpec.upto versionsBackSpec)

/-- 'testamurlaw15.VersionsSome', WHERE WHAT IT READS IS OF BULK AT MOST 1048576: true; the input reads as it did. -/
def versionsSomeUptoRow : OpenClaim := { program := "ytihbkbioafdhjaa", sum := "ff20e4ac66928de1711370da4f54c0880fc57968e5e9e50690137046825c8ce3", func := "testamur/testamurlaw15.VersionsSome", spec := "versionsSome", unfollowed := true, recurses := true, apart := false, narrowed := true }
def VersionsSomeUptoSaid : Prop := versionsSomeUptoRow.holds Try.pinned (OpenSpec.upto versionsSomeSpec)

/-- 'testamurlaw15.VersionsAround', WHERE WHAT IT READS IS OF BULK AT MOST 1048576: true; the input reads as it did. -/
def versionsAroundUptoRow : OpenClaim := { program := "ytihbkbioafdhjaa", sum := "ff20e4ac66928de1711370da4f54c0880fc57968e5e9e50690137046825c8ce3", func := "testamur/testamurlaw15.VersionsAround", spec := "versionsAround", unfollowed := true, recurses := true, apart := false, narrowed := true }
def VersionsAroundUptoSaid : Prop := versionsAroundUptoRow.holds Try.pinned (OpenSpec.upto versionsAroundSpec)

/-- 'testamurlaw15.VersionsValid', WHERE WHAT IT READS IS OF BULK AT MOST 1048576: true; the input reads as it did. -/
def versionsValidUptoRow : OpenClaim := { program := "ytihbkbioafdhjaa", sum := "ff20e4ac66928de1711370da4f54c0880fc57968e5e9e50690137046825c8ce3", func := "testamur/testamurlaw15.VersionsValid", spec := "versionsValid", unfollowed := true, recurses := true, apart := false, narrowed := true }
def VersionsValidUptoSaid : Prop := versionsValidUptoRow.holds Try.pinned (OpenSpec.upto versionsValidSpec)

end Rows
end Go.Proofs.Ytihbkbioafdhjaa
