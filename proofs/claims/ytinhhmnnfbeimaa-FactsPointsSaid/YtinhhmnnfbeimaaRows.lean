/-
  No cell of these rows narrows 'for every input' (looked for: loops, veiled, ifaces, maps, wideKeys, modest, calm, conditions, laid).
  DERIVED. THE GIVEN ROWS OF THIS SEAT. 8 by the template 'for every input the law returns true; each argument reads behind the call as it read before'; 0 by the template 'total and deterministic' (their statements: YtinhhmnnfbeimaaTotals.lean).
  GIVEN WITH THE SEED: the statements are not yours to turn. If you find one false, say at which input.
  Laid BY PROGRAM, IN A SANDBOX (cutbox-rows.mjs): the forced cells as the released guide's own fill.sh prints them over the translation 3933a120b62691a4… (all of the seat's roots in one cut). By AI agents, Wed Nov 11 2026. No macro, syntax, notation, axiom, sorry.
-/
import Derived.Test.YtinhhmnnfbeimaaChecked
import GoSem.Claim
import GoSem.ClaimJoined
import GoSem.ClaimMapViews
import Derived.JoinedTies
import Derived.KernelRfl
namespace Go.Proofs.Ytinhhmnnfbeimaa
/- THE CELL 'sum', in the pinned program and in every row, IS THE sha256 OF THE DUMP (.gsa) THAT YtinhhmnnfbeimaaProg.lean LOADS. Nothing in Lean hashes anything: it is a label: what it is worth is what the hold of that sum in a sandbox is worth. -/
noncomputable def Try.pinned : Pinned := { name := "ytinhhmnnfbeimaa", sum := "3933a120b62691a4f337a392f0130e8b89035ec494efbbca33ff244580068f99", checked := Try.checked }
namespace Rows
def none {H : Type} : Left H := { results := [], args := [] }

/-- 'testamurlaw04.FactsCheckSpec': WHATEVER THE INPUT: true; the input reads as it did. -/
def factsCheckSpecSpec : ChangeSpec := { name := "factsCheckSpec", fn := fun _ => fun
  | [d1, d2] => { results := [.lit (.bool true)], args := [d1, d2] }
  | _ => none }
def factsCheckSpecRow : OpenClaim := { program := "ytinhhmnnfbeimaa", sum := "3933a120b62691a4f337a392f0130e8b89035ec494efbbca33ff244580068f99", func := "testamur/testamurlaw04.FactsCheckSpec", spec := "factsCheckSpec", unfollowed := true, recurses := true, plainKeys := false, apart := false }
def FactsCheckSpecSaid : Prop := factsCheckSpecRow.holds Try.pinned (OpenSpec.ofChange factsCheckSpecSpec)

/-- ITS FALSE NEIGHBOUR: 'it returns false'. Refute it at one input. -/
def factsCheckSpecWrong : ChangeSpec := { name := "factsCheckSpec", fn := fun _ => fun
  | [d1, d2] => { results := [.lit (.bool false)], args := [d1, d2] }
  | _ => none }
def FactsCheckSpecWrongFalsely : Prop := factsCheckSpecRow.holds Try.pinned (OpenSpec.ofChange factsCheckSpecWrong)

/-- 'testamurlaw04.FactsAtSpec': WHATEVER THE INPUT: true; the input reads as it did. -/
def factsAtSpecSpec : ChangeSpec := { name := "factsAtSpec", fn := fun _ => fun
  | [d1, d2, d3, d4, d5] => { results := [.lit (.bool true)], args := [d1, d2, d3, d4, d5] }
  | _ => none }
def factsAtSpecRow : OpenClaim := { program := "ytinhhmnnfbeimaa", sum := "3933a120b62691a4f337a392f0130e8b89035ec494efbbca33ff244580068f99", func := "testamur/testamurlaw04.FactsAtSpec", spec := "factsAtSpec", unfollowed := true, recurses := true, plainKeys := false, apart := false }
def FactsAtSpecSaid : Prop := factsAtSpecRow.holds Try.pinned (OpenSpec.ofChange factsAtSpecSpec)

/-- ITS FALSE NEIGHBOUR: 'it returns false'. Refute it at one input. -/
def factsAtSpecWrong : ChangeSpec := { name := "factsAtSpec", fn := fun _ => fun
  | [d1, d2, d3, d4, d5] => { results := [.lit (.bool false)], args := [d1, d2, d3, d4, d5] }
  | _ => none }
def FactsAtSpecWrongFalsely : Prop := factsAtSpecRow.holds Try.pinned (OpenSpec.ofChange factsAtSpecWrong)

/-- 'testamurlaw04.FactsChangedSpec': WHATEVER THE INPUT: true; the input reads as it did. -/
def factsChangedSpecSpec : ChangeSpec := { name := "factsChangedSpec", fn := fun _ => fun
  | [d1, d2, d3, d4] => { results := [.lit (.bool true)], args := [d1, d2, d3, d4] }
  | _ => none }
def factsChangedSpecRow : OpenClaim := { program := "ytinhhmnnfbeimaa", sum := "3933a120b62691a4f337a392f0130e8b89035ec494efbbca33ff244580068f99", func := "testamur/testamurlaw04.FactsChangedSpec", spec := "factsChangedSpec", unfollowed := true, recurses := true, plainKeys := false, apart := false }
def FactsChangedSpecSaid : Prop := factsChangedSpecRow.holds Try.pinned (OpenSpec.ofChange factsChangedSpecSpec)

/-- ITS FALSE NEIGHBOUR: 'it returns false'. Refute it at one input. -/
def factsChangedSpecWrong : ChangeSpec := { name := "factsChangedSpec", fn := fun _ => fun
  | [d1, d2, d3, d4] => { results := [.lit (.bool false)], args := [d1, d2, d3, d4] }
  | _ => none }
def FactsChangedSpecWrongFalsely : Prop := factsChangedSpecRow.holds Try.pinned (OpenSpec.ofChange factsChangedSpecWrong)

/-- 'testamurlaw04.FactsPast': WHATEVER THE INPUT: true; the input reads as it did. -/
def factsPastSpec : ChangeSpec := { name := "factsPast", fn := fun _ => fun
  | [d1, d2, d3, d4, d5] => { results := [.lit (.bool true)], args := [d1, d2, d3, d4, d5] }
  | _ => none }
def factsPastRow : OpenClaim := { program := "ytinhhmnnfbeimaa", sum := "3933a120b62691a4f337a392f0130e8b89035ec494efbbca33ff244580068f99", func := "testamur/testamurlaw04.FactsPast", spec := "factsPast", unfollowed := true, recurses := true, plainKeys := false, apart := false }
def FactsPastSaid : Prop := factsPastRow.holds Try.pinned (OpenSpec.ofChange factsPastSpec)

/-- ITS FALSE NEIGHBOUR: 'it returns false'. Refute it at one input. -/
def factsPastWrong : ChangeSpec := { name := "factsPast", fn := fun _ => fun
  | [d1, d2, d3, d4, d5] => { results := [.lit (.bool false)], args := [d1, d2, d3, d4, d5] }
  | _ => none }
def FactsPastWrongFalsely : Prop := factsPastRow.holds Try.pinned (OpenSpec.ofChange factsPastWrong)

/-- 'testamurlaw04.FactsUpto': WHATEVER THE INPUT: true; the input reads as it did. -/
def factsUptoSpec : ChangeSpec := { name := "factsUpto", fn := fun _ => fun
  | [d1, d2, d3, d4, d5] => { results := [.lit (.bool true)], args := [d1, d2, d3, d4, d5] }
  | _ => none }
def factsUptoRow : OpenClaim := { program := "ytinhhmnnfbeimaa", sum := "3933a120b62691a4f337a392f0130e8b89035ec494efbbca33ff244580068f99", func := "testamur/testamurlaw04.FactsUpto", spec := "factsUpto", unfollowed := true, recurses := true, plainKeys := false, apart := false }
def FactsUptoSaid : Prop := factsUptoRow.holds Try.pinned (OpenSpec.ofChange factsUptoSpec)

/-- ITS FALSE NEIGHBOUR: 'it returns false'. Refute it at one input. -/
def factsUptoWrong : ChangeSpec := { name := "factsUpto", fn := fun _ => fun
  | [d1, d2, d3, d4, d5] => { results := [.lit (.bool false)], args := [d1, d2, d3, d4, d5] }
  | _ => none }
def FactsUptoWrongFalsely : Prop := factsUptoRow.holds Try.pinned (OpenSpec.ofChange factsUptoWrong)

/-- 'testamurlaw04.FactsCounts': WHATEVER THE INPUT: true; the input reads as it did. -/
def factsCountsSpec : ChangeSpec := { name := "factsCounts", fn := fun _ => fun
  | [d1, d2, d3, d4] => { results := [.lit (.bool true)], args := [d1, d2, d3, d4] }
  | _ => none }
def factsCountsRow : OpenClaim := { program := "ytinhhmnnfbeimaa", sum := "3933a120b62691a4f337a392f0130e8b89035ec494efbbca33ff244580068f99", func := "testamur/testamurlaw04.FactsCounts", spec := "factsCounts", unfollowed := true, recurses := true, plainKeys := false, apart := false }
def FactsCountsSaid : Prop := factsCountsRow.holds Try.pinned (OpenSpec.ofChange factsCountsSpec)

/-- ITS FALSE NEIGHBOUR: 'it returns false'. Refute it at one input. -/
def factsCountsWrong : ChangeSpec := { name := "factsCounts", fn := fun _ => fun
  | [d1, d2, d3, d4] => { results := [.lit (.bool false)], args := [d1, d2, d3, d4] }
  | _ => none }
def FactsCountsWrongFalsely : Prop := factsCountsRow.holds Try.pinned (OpenSpec.ofChange factsCountsWrong)

/-- 'testamurlaw04.FactsRead': WHATEVER THE INPUT: true; the input reads as it did. -/
def factsReadSpec : ChangeSpec := { name := "factsRead", fn := fun _ => fun
  | [d1, d2, d3, d4] => { results := [.lit (.bool true)], args := [d1, d2, d3, d4] }
  | _ => none }
def factsReadRow : OpenClaim := { program := "ytinhhmnnfbeimaa", sum := "3933a120b62691a4f337a392f0130e8b89035ec494efbbca33ff244580068f99", func := "testamur/testamurlaw04.FactsRead", spec := "factsRead", unfollowed := true, recurses := true, plainKeys := false, apart := false }
def FactsReadSaid : Prop := factsReadRow.holds Try.pinned (OpenSpec.ofChange factsReadSpec)

/-- ITS FALSE NEIGHBOUR: 'it returns false'. Refute it at one input. -/
def factsReadWrong : ChangeSpec := { name := "factsRead", fn := fun _ => fun
  | [d1, d2, d3, d4] => { results := [.lit (.bool false)], args := [d1, d2, d3, d4] }
  | _ => none }
def FactsReadWrongFalsely : Prop := factsReadRow.holds Try.pinned (OpenSpec.ofChange factsReadWrong)

/-- 'testamurlaw04.FactsPoints': WHATEVER THE INPUT: true; the input reads as it did. -/
def factsPointsSpec : ChangeSpec := { name := "factsPoints", fn := fun _ => fun
  | [d1, d2, d3, d4, d5] => { results := [.lit (.bool true)], args := [d1, d2, d3, d4, d5] }
  | _ => none }
def factsPointsRow : OpenClaim := { program := "ytinhhmnnfbeimaa", sum := "3933a120b62691a4f337a392f0130e8b89035ec494efbbca33ff244580068f99", func := "testamur/testamurlaw04.FactsPoints", spec := "factsPoints", unfollowed := true, recurses := true, plainKeys := false, apart := false }
def FactsPointsSaid : Prop := factsPointsRow.holds Try.pinned (OpenSpec.ofChange factsPointsSpec)

/-- ITS FALSE NEIGHBOUR: 'it returns false'. Refute it at one input. -/
def factsPointsWrong : ChangeSpec := { name := "factsPoints", fn := fun _ => fun
  | [d1, d2, d3, d4, d5] => { results := [.lit (.bool false)], args := [d1, d2, d3, d4, d5] }
  | _ => none }
def FactsPointsWrongFalsely : Prop := factsPointsRow.holds Try.pinned (OpenSpec.ofChange factsPointsWrong)

/- THE SECOND FORM. 'bulk': how many values and letters a reading holds, each counted each time it is reached (what is shared counts as often as it is met; a slice's spare places count too). A statement '..UptoSaid' is the law's where the arguments, and the package variables that the reading takes, are together of bulk at most 1048576: NARROWER than '..Said'. Prove '..Said' where nothing that the law and all that it calls make is longer than what came in: it says more and counts as full. Else prove '..UptoSaid'. A law counts once. -/
mutual
def uptoBulk {H : Type} : DataW H → Nat
  | .lit (.string bytes) => bytes.length + 1
  | .lit _ => 1
  | .nil => 1
  | .ptr d => uptoBulk d + 1
  | .slice elems spare => uptoBulkAll elems + uptoBulkAll spare + 1
  | .agg parts => uptoBulkAll parts + 1
  | .iface _ d => uptoBulk d + 1
  | .map entries => uptoBulkEntries entries + 1
  | .held _ => 1
def uptoBulkAll {H : Type} : List (DataW H) → Nat
  | [] => 0
  | d :: r => uptoBulk d + uptoBulkAll r
def uptoBulkEntries {H : Type} : List (Lit × DataW H) → Nat
  | [] => 0
  | x :: r => uptoBulkEntry x + uptoBulkEntries r
def uptoBulkEntry {H : Type} : Lit × DataW H → Nat
  | (.string bytes, d) => bytes.length + uptoBulk d + 1
  | (_, d) => uptoBulk d + 1
 end
def uptoSmall : (H : Type) → List (DataW H) → Bool := fun _ ds => decide (uptoBulkAll ds ≤ 1048576)
def OpenSpec.upto (s : _root_.Go.ChangeSpec) : _root_.Go.OpenSpec := { _root_.Go.OpenSpec.ofChange s with cond := some uptoSmall }

/-- 'testamurlaw04.FactsCheckSpec', WHERE WHAT IT READS IS OF BULK AT MOST 1048576: true; the input reads as it did. -/
def factsCheckSpecUptoRow : OpenClaim := { program := "ytinhhmnnfbeimaa", sum := "3933a120b62691a4f337a392f0130e8b89035ec494efbbca33ff244580068f99", func := "testamur/testamurlaw04.FactsCheckSpec", spec := "factsCheckSpec", unfollowed := true, recurses := true, plainKeys := false, apart := false, narrowed := true }
def FactsCheckSpecUptoSaid : Prop := factsCheckSpecUptoRow.holds Try.pinned (OpenSpec.upto factsCheckSpecSpec)

/-- 'testamurlaw04.FactsAtSpec', WHERE WHAT IT READS IS OF BULK AT MOST 1048576: true; the input reads as it did. -/
def factsAtSpecUptoRow : OpenClaim := { program := "ytinhhmnnfbeimaa", sum := "3933a120b62691a4f337a392f0130e8b89035ec494efbbca33ff244580068f99", func := "testamur/testamurlaw04.FactsAtSpec", spec := "factsAtSpec", unfollowed := true, recurses := true, plainKeys := false, apart := false, narrowed := true }
def FactsAtSpecUptoSaid : Prop := factsAtSpecUptoRow.holds Try.pinned (OpenSpec.upto factsAtSpecSpec)

/-- 'testamurlaw04.FactsChangedSpec', WHERE WHAT IT READS IS OF BULK AT MOST 1048576: true; the input reads as it did. -/
def factsChangedSpecUptoRow : OpenClaim := { program := "ytinhhmnnfbeimaa", sum := "3933a120b62691a4f337a392f0130e8b89035ec494efbbca33ff244580068f99", func := "testamur/testamurlaw04.FactsChangedSpec", spec := "factsChangedSpec", unfollowed := true, recurses := true, plainKeys := false, apart := false, narrowed := true }
def FactsChangedSpecUptoSaid : Prop := factsChangedSpecUptoRow.holds Try.pinned (OpenSpec.upto factsChangedSpecSpec)

/-- 'testamurlaw04.FactsPast', WHERE WHAT IT READS IS OF BULK AT MOST 1048576: true; the input reads as it did. -/
def factsPastUptoRow : OpenClaim := { program := "ytinhhmnnfbeimaa", sum := "3933a120b62691a4f337a392f0130e8b89035ec494efbbca33ff244580068f99", func := "testamur/testamurlaw04.FactsPast", spec := "factsPast", unfollowed := true, recurses := true, plainKeys := false, apart := false, narrowed := true }
def FactsPastUptoSaid : Prop := factsPastUptoRow.holds Try.pinned (OpenSpec.upto factsPastSpec)

/-- 'testamurlaw04.FactsUpto', WHERE WHAT IT READS IS OF BULK AT MOST 1048576: true; the input reads as it did. -/
def factsUptoUptoRow : OpenClaim := { program := "ytinhhmnnfbeimaa", sum := "3933a120b62691a4f337a392f0130e8b89035ec494efbbca33ff244580068f99", func := "testamur/testamurlaw04.FactsUpto", spec := "factsUpto", unfollowed := true, recurses := true, plainKeys := false, apart := false, narrowed := true }
def FactsUptoUptoSaid : Prop := factsUptoUptoRow.holds Try.pinned (OpenSpec.upto factsUptoSpec)

/-- 'testamurlaw04.FactsCounts', WHERE WHAT IT READS IS OF BULK AT MOST 1048576: true; the input reads as it did. -/
def factsCountsUptoRow : OpenClaim := { program := "ytinhhmnnfbeimaa", sum := "3933a120b62691a4f337a392f0130e8b89035ec494efbbca33ff244580068f99", func := "testamur/testamurlaw04.FactsCounts", spec := "factsCounts", unfollowed := true, recurses := true, plainKeys := false, apart := false, narrowed := true }
def FactsCountsUptoSaid : Prop := factsCountsUptoRow.holds Try.pinned (OpenSpec.upto factsCountsSpec)

/-- 'testamurlaw04.FactsRead', WHERE WHAT IT READS IS OF BULK AT MOST 1048576: true; the input reads as it did. -/
def factsReadUptoRow : OpenClaim := { program := "ytinhhmnnfbeimaa", sum := "3933a120b62691a4f337a392f0130e8b89035ec494efbbca33ff244580068f99", func := "testamur/testamurlaw04.FactsRead", spec := "factsRead", unfollowed := true, recurses := true, plainKeys := false, apart := false, narrowed := true }
def FactsReadUptoSaid : Prop := factsReadUptoRow.holds Try.pinned (OpenSpec.upto factsReadSpec)

/-- 'testamurlaw04.FactsPoints', WHERE WHAT IT READS IS OF BULK AT MOST 1048576: true; the input reads as it did. -/
def factsPointsUptoRow : OpenClaim := { program := "ytinhhmnnfbeimaa", sum := "3933a120b62691a4f337a392f0130e8b89035ec494efbbca33ff244580068f99", func := "testamur/testamurlaw04.FactsPoints", spec := "factsPoints", unfollowed := true, recurses := true, plainKeys := false, apart := false, narrowed := true }
def FactsPointsUptoSaid : Prop := factsPointsUptoRow.holds Try.pinned (OpenSpec.upto factsPointsSpec)

end Rows
end Go.Proofs.Ytinhhmnnfbeimaa
