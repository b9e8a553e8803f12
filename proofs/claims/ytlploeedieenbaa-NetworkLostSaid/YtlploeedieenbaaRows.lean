/-
  No cell of these rows narrows 'for every input' (looked for: loops, veiled, ifaces, maps, wideKeys, modest, calm, conditions, laid).
  DERIVED. THE GIVEN ROWS OF THIS SEAT. 6 by the template 'for every input the law returns true; each argument reads behind the call as it read before'; 0 by the template 'total and deterministic' (their statements: YtlploeedieenbaaTotals.lean).
  GIVEN WITH THE SEED: the statements are not yours to turn. If you find one false, say at which input.
  Laid BY PROGRAM, IN A SANDBOX (cutbox-rows.mjs): the forced cells as the released guide's own fill.sh prints them over the translation 04fb7f080ccff4f9… (all of the seat's roots in one cut). By AI agents, Wed Nov 11 2026. No macro, syntax, notation, axiom, sorry.
-/
import Derived.Test.YtlploeedieenbaaChecked
import GoSem.Claim
import GoSem.ClaimJoined
import GoSem.ClaimMapViews
import Derived.JoinedTies
import Derived.KernelRfl
namespace Go.Proofs.Ytlploeedieenbaa
/- THE CELL 'sum', in the pinned program and in every row, IS THE sha256 OF THE DUMP (.gsa) THAT YtlploeedieenbaaProg.lean LOADS. Nothing in Lean hashes anything: it is a label: what it is worth is what the hold of that sum in a sandbox is worth. -/
noncomputable def Try.pinned : Pinned := { name := "ytlploeedieenbaa", sum := "04fb7f080ccff4f9359ec24471470c573e62b48c65263f426f393ffa6ea01e2a", checked := Try.checked }
namespace Rows
def none {H : Type} : Left H := { results := [], args := [] }

/-- 'testamurlaw49.NetworkSpec': WHATEVER THE INPUT: true; the input reads as it did. -/
def networkSpecSpec : ChangeSpec := { name := "networkSpec", fn := fun _ => fun
  | [d1, d2] => { results := [.lit (.bool true)], args := [d1, d2] }
  | _ => none }
def networkSpecRow : OpenClaim := { program := "ytlploeedieenbaa", sum := "04fb7f080ccff4f9359ec24471470c573e62b48c65263f426f393ffa6ea01e2a", func := "testamur/testamurlaw49.NetworkSpec", spec := "networkSpec", unfollowed := true, recurses := true, apart := false }
def NetworkSpecSaid : Prop := networkSpecRow.holds Try.pinned (OpenSpec.ofChange networkSpecSpec)

/-- ITS FALSE NEIGHBOUR: 'it returns false'. Refute it at one input. -/
def networkSpecWrong : ChangeSpec := { name := "networkSpec", fn := fun _ => fun
  | [d1, d2] => { results := [.lit (.bool false)], args := [d1, d2] }
  | _ => none }
def NetworkSpecWrongFalsely : Prop := networkSpecRow.holds Try.pinned (OpenSpec.ofChange networkSpecWrong)

/-- 'testamurlaw49.NetworkMoveSpec': WHATEVER THE INPUT: true; the input reads as it did. -/
def networkMoveSpecSpec : ChangeSpec := { name := "networkMoveSpec", fn := fun _ => fun
  | [d1, d2, d3, d4, d5] => { results := [.lit (.bool true)], args := [d1, d2, d3, d4, d5] }
  | _ => none }
def networkMoveSpecRow : OpenClaim := { program := "ytlploeedieenbaa", sum := "04fb7f080ccff4f9359ec24471470c573e62b48c65263f426f393ffa6ea01e2a", func := "testamur/testamurlaw49.NetworkMoveSpec", spec := "networkMoveSpec", unfollowed := true, recurses := true, apart := false }
def NetworkMoveSpecSaid : Prop := networkMoveSpecRow.holds Try.pinned (OpenSpec.ofChange networkMoveSpecSpec)

/-- ITS FALSE NEIGHBOUR: 'it returns false'. Refute it at one input. -/
def networkMoveSpecWrong : ChangeSpec := { name := "networkMoveSpec", fn := fun _ => fun
  | [d1, d2, d3, d4, d5] => { results := [.lit (.bool false)], args := [d1, d2, d3, d4, d5] }
  | _ => none }
def NetworkMoveSpecWrongFalsely : Prop := networkMoveSpecRow.holds Try.pinned (OpenSpec.ofChange networkMoveSpecWrong)

/-- 'testamurlaw49.NetworkOnlySent': WHATEVER THE INPUT: true; the input reads as it did. -/
def networkOnlySentSpec : ChangeSpec := { name := "networkOnlySent", fn := fun _ => fun
  | [d] => { results := [.lit (.bool true)], args := [d] }
  | _ => none }
def networkOnlySentRow : OpenClaim := { program := "ytlploeedieenbaa", sum := "04fb7f080ccff4f9359ec24471470c573e62b48c65263f426f393ffa6ea01e2a", func := "testamur/testamurlaw49.NetworkOnlySent", spec := "networkOnlySent", unfollowed := true, recurses := true, apart := false }
def NetworkOnlySentSaid : Prop := networkOnlySentRow.holds Try.pinned (OpenSpec.ofChange networkOnlySentSpec)

/-- ITS FALSE NEIGHBOUR: 'it returns false'. Refute it at one input. -/
def networkOnlySentWrong : ChangeSpec := { name := "networkOnlySent", fn := fun _ => fun
  | [d] => { results := [.lit (.bool false)], args := [d] }
  | _ => none }
def NetworkOnlySentWrongFalsely : Prop := networkOnlySentRow.holds Try.pinned (OpenSpec.ofChange networkOnlySentWrong)

/-- 'testamurlaw49.NetworkAll': WHATEVER THE INPUT: true; the input reads as it did. -/
def networkAllSpec : ChangeSpec := { name := "networkAll", fn := fun _ => fun
  | [d1, d2] => { results := [.lit (.bool true)], args := [d1, d2] }
  | _ => none }
def networkAllRow : OpenClaim := { program := "ytlploeedieenbaa", sum := "04fb7f080ccff4f9359ec24471470c573e62b48c65263f426f393ffa6ea01e2a", func := "testamur/testamurlaw49.NetworkAll", spec := "networkAll", unfollowed := true, recurses := true, apart := false }
def NetworkAllSaid : Prop := networkAllRow.holds Try.pinned (OpenSpec.ofChange networkAllSpec)

/-- ITS FALSE NEIGHBOUR: 'it returns false'. Refute it at one input. -/
def networkAllWrong : ChangeSpec := { name := "networkAll", fn := fun _ => fun
  | [d1, d2] => { results := [.lit (.bool false)], args := [d1, d2] }
  | _ => none }
def NetworkAllWrongFalsely : Prop := networkAllRow.holds Try.pinned (OpenSpec.ofChange networkAllWrong)

/-- 'testamurlaw49.NetworkCuts': WHATEVER THE INPUT: true; the input reads as it did. -/
def networkCutsSpec : ChangeSpec := { name := "networkCuts", fn := fun _ => fun
  | [d1, d2, d3, d4] => { results := [.lit (.bool true)], args := [d1, d2, d3, d4] }
  | _ => none }
def networkCutsRow : OpenClaim := { program := "ytlploeedieenbaa", sum := "04fb7f080ccff4f9359ec24471470c573e62b48c65263f426f393ffa6ea01e2a", func := "testamur/testamurlaw49.NetworkCuts", spec := "networkCuts", unfollowed := true, recurses := true, apart := false }
def NetworkCutsSaid : Prop := networkCutsRow.holds Try.pinned (OpenSpec.ofChange networkCutsSpec)

/-- ITS FALSE NEIGHBOUR: 'it returns false'. Refute it at one input. -/
def networkCutsWrong : ChangeSpec := { name := "networkCuts", fn := fun _ => fun
  | [d1, d2, d3, d4] => { results := [.lit (.bool false)], args := [d1, d2, d3, d4] }
  | _ => none }
def NetworkCutsWrongFalsely : Prop := networkCutsRow.holds Try.pinned (OpenSpec.ofChange networkCutsWrong)

/-- 'testamurlaw49.NetworkLost': WHATEVER THE INPUT: true; the input reads as it did. -/
def networkLostSpec : ChangeSpec := { name := "networkLost", fn := fun _ => fun
  | [d1, d2] => { results := [.lit (.bool true)], args := [d1, d2] }
  | _ => none }
def networkLostRow : OpenClaim := { program := "ytlploeedieenbaa", sum := "04fb7f080ccff4f9359ec24471470c573e62b48c65263f426f393ffa6ea01e2a", func := "testamur/testamurlaw49.NetworkLost", spec := "networkLost", unfollowed := true, recurses := true, apart := false }
def NetworkLostSaid : Prop := networkLostRow.holds Try.pinned (OpenSpec.ofChange networkLostSpec)

/-- ITS FALSE NEIGHBOUR: 'it returns false'. Refute it at one input. -/
def networkLostWrong : ChangeSpec := { name := "networkLost", fn := fun _ => fun
  | [d1, d2] => { results := [.lit (.bool false)], args := [d1, d2] }
  | _ => none }
def NetworkLostWrongFalsely : Prop := networkLostRow.holds Try.pinned (OpenSpec.ofChange networkLostWrong)

/- THE SECOND FORM. 'bulk': how many values and letters a reading holds, each counted each time it is reached (what is shared counts as often as it is met; a slice's spare places count too). A statement '..UptoSaid' is the law's where the arguments, and the package variables that the reading takes, are together of bulk at most 1048576: NARROWER than '..Said'. Prove '..Said' where nothing that the law and all that it calls make is longer than what came in: it says more and counts as full. Else prove '..UptoSaid'. A law counts once. -/
mutual
def uptoBulk {H : Type} : DataW H → Nat
  | .lit (.string bytes) => bytes.length + 1
  | .lit _ => 1
  | .nil => 1
  | .ptr d => uptoBulk d + 1
  | .slice elems spare => uptoBulkAll elems + uptoBulkAll spare + 1
  | .agg parts => uptoBulkAll parts + 1
  | .iface _ d => uptoBulk d + 1
  | .map entries => uptoBulkEntries entries + 1
  | .held _ => 1
def uptoBulkAll {H : Type} : List (DataW H) → Nat
  | [] => 0
  | d :: r => uptoBulk d + uptoBulkAll r
def uptoBulkEntries {H : Type} : List (Lit × DataW H) → Nat
  | [] => 0
  | x :: r => uptoBulkEntry x + uptoBulkEntries r
def uptoBulkEntry {H : Type} : Lit × DataW H → Nat
  | (.string bytes, d) => bytes.length + uptoBulk d + 1
  | (_, d) => uptoBulk d + 1
 end
def uptoSmall : (H : Type) → List (DataW H) → Bool := fun _ ds => decide (uptoBulkAll ds ≤ 1048576)
def OpenSpec.upto (s : _root_.Go.ChangeSpec) : _root_.Go.OpenSpec := { _root_.Go.OpenSpec.ofChange s with cond := some uptoSmall }

/-- 'testamurlaw49.NetworkSpec', WHERE WHAT IT READS IS OF BULK AT MOST 1048576: true; the input reads as it did. -/
def networkSpecUptoRow : OpenClaim := { program := "ytlploeedieenbaa", sum := "04fb7f080ccff4f9359ec24471470c573e62b48c65263f426f393ffa6ea01e2a", func := "testamur/testamurlaw49.NetworkSpec", spec := "networkSpec", unfollowed := true, recurses := true, apart := false, narrowed := true }
def NetworkSpecUptoSaid : Prop := networkSpecUptoRow.holds Try.pinned (OpenSpec.upto networkSpecSpec)

/-- 'testamurlaw49.NetworkMoveSpec', WHERE WHAT IT READS IS OF BULK AT MOST 1048576: true; the input reads as it did. -/
def networkMoveSpecUptoRow : OpenClaim := { program := "ytlploeedieenbaa", sum := "04fb7f080ccff4f9359ec24471470c573e62b48c65263f426f393ffa6ea01e2a", func := "testamur/testamurlaw49.NetworkMoveSpec", spec := "networkMoveSpec", unfollowed := true, recurses := true, apart := false, narrowed := true }
def NetworkMoveSpecUptoSaid : Prop := networkMoveSpecUptoRow.holds Try.pinned (OpenSpec.upto networkMoveSpecSpec)

/-- 'testamurlaw49.NetworkOnlySent', WHERE WHAT IT READS IS OF BULK AT MOST 1048576: true; the input reads as it did. -/
def networkOnlySentUptoRow : OpenClaim := { program := "ytlploeedieenbaa", sum := "04fb7f080ccff4f9359ec24471470c573e62b48c65263f426f393ffa6ea01e2a", func := "testamur/testamurlaw49.NetworkOnlySent", spec := "networkOnlySent", unfollowed := true, recurses := true, apart := false, narrowed := true }
def NetworkOnlySentUptoSaid : Prop := networkOnlySentUptoRow.holds Try.pinned (OpenSpec.upto networkOnlySentSpec)

/-- 'testamurlaw49.NetworkAll', WHERE WHAT IT READS IS OF BULK AT MOST 1048576: true; the input reads as it did. -/
def networkAllUptoRow : OpenClaim := { program := "ytlploeedieenbaa", sum := "04fb7f080ccff4f9359ec24471470c573e62b48c65263f426f393ffa6ea01e2a", func := "testamur/testamurlaw49.NetworkAll", spec := "networkAll", unfollowed := true, recurses := true, apart := false, narrowed := true }
def NetworkAllUptoSaid : Prop := networkAllUptoRow.holds Try.pinned (OpenSpec.upto networkAllSpec)

/-- 'testamurlaw49.NetworkCuts', WHERE WHAT IT READS IS OF BULK AT MOST 1048576: true; the input reads as it did. -/
def networkCutsUptoRow : OpenClaim := { program := "ytlploeedieenbaa", sum := "04fb7f080ccff4f9359ec24471470c573e62b48c65263f426f393ffa6ea01e2a", func := "testamur/testamurlaw49.NetworkCuts", spec := "networkCuts", unfollowed := true, recurses := true, apart := false, narrowed := true }
def NetworkCutsUptoSaid : Prop := networkCutsUptoRow.holds Try.pinned (OpenSpec.upto networkCutsSpec)

/-- 'testamurlaw49.NetworkLost', WHERE WHAT IT READS IS OF BULK AT MOST 1048576: true; the input reads as it did. -/
def networkLostUptoRow : OpenClaim := { program := "ytlploeedieenbaa", sum := "04fb7f080ccff4f9359ec24471470c573e62b48c65263f426f393ffa6ea01e2a", func := "testamur/testamurlaw49.NetworkLost", spec := "networkLost", unfollowed := true, recurses := true, apart := false, narrowed := true }
def NetworkLostUptoSaid : Prop := networkLostUptoRow.holds Try.pinned (OpenSpec.upto networkLostSpec)

end Rows
end Go.Proofs.Ytlploeedieenbaa
