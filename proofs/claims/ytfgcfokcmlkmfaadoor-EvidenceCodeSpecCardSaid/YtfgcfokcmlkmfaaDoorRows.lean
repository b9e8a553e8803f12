/-
  NARROWER THAN 'FOR EVERY INPUT', by the rows' own cells (each row's printed sentence says how): EvidenceAddSpec: laid · EvidenceCodeSpec: laid · EvidenceBrokenSpec: laid · EvidenceOne: laid · EvidenceChanged: laid · EvidenceGrows: laid · EvidenceBack: laid.
  DERIVED. THE GIVEN ROWS OF THIS SEAT. 7 by the template 'for every input the law returns true; each argument reads behind the call as it read before'; 0 by the template 'total and deterministic' (their statements: YtfgcfokcmlkmfaaDoorTotals.lean).
  GIVEN WITH THE SEED: the statements are not yours to turn. If you find one false, say at which input.
  Laid BY PROGRAM, IN A SANDBOX (cutbox-rows.mjs): the forced cells as the released guide's own fill.sh prints them over the translation 42b0562971eff228… (all of the seat's roots in one cut). By AI agents, Wed Nov 11 2026. No macro, syntax, notation, axiom, sorry.
-/
import Derived.Test.YtfgcfokcmlkmfaaDoorChecked
import GoSem.Claim
import GoSem.ClaimJoined
import GoSem.ClaimMapViews
import Derived.JoinedTies
import Derived.KernelRfl
namespace Go.Proofs.YtfgcfokcmlkmfaaDoor
/- THE CELL 'sum', in the pinned program and in every row, IS THE sha256 OF THE DUMP (.gsa) THAT YtfgcfokcmlkmfaaDoorProg.lean LOADS. Nothing in Lean hashes anything: it is a label: what it is worth is what the hold of that sum in a sandbox is worth. -/
noncomputable def Tryd.pinned : Pinned := { name := "ytfgcfokcmlkmfaadoor", sum := "42b0562971eff2281988131146bc74fed6e964c54d6e65711a24fb775e3caf25", checked := Tryd.checked }
namespace Rows
def none {H : Type} : Left H := { results := [], args := [] }

/- WHAT THE LISTED PACKAGE-LEVEL VARIABLES READ AS WHEN THE CALL BEGINS. Each datum BY PROGRAM (the guide's laid-datum.mjs) off the statement by which the dump's own 'gosem.cut.vars' lays the variable. In a bare row this is a premise. The card (YtfgcfokcmlkmfaaDoorCards.lean) ties it to the program's text. -/
def laid_testamur_digest_constants {H : Type} : DataW H := .agg [.lit (.int .u32 1116352408), .lit (.int .u32 1899447441), .lit (.int .u32 3049323471), .lit (.int .u32 3921009573), .lit (.int .u32 961987163), .lit (.int .u32 1508970993), .lit (.int .u32 2453635748), .lit (.int .u32 2870763221), .lit (.int .u32 3624381080), .lit (.int .u32 310598401), .lit (.int .u32 607225278), .lit (.int .u32 1426881987), .lit (.int .u32 1925078388), .lit (.int .u32 2162078206), .lit (.int .u32 2614888103), .lit (.int .u32 3248222580), .lit (.int .u32 3835390401), .lit (.int .u32 4022224774), .lit (.int .u32 264347078), .lit (.int .u32 604807628), .lit (.int .u32 770255983), .lit (.int .u32 1249150122), .lit (.int .u32 1555081692), .lit (.int .u32 1996064986), .lit (.int .u32 2554220882), .lit (.int .u32 2821834349), .lit (.int .u32 2952996808), .lit (.int .u32 3210313671), .lit (.int .u32 3336571891), .lit (.int .u32 3584528711), .lit (.int .u32 113926993), .lit (.int .u32 338241895), .lit (.int .u32 666307205), .lit (.int .u32 773529912), .lit (.int .u32 1294757372), .lit (.int .u32 1396182291), .lit (.int .u32 1695183700), .lit (.int .u32 1986661051), .lit (.int .u32 2177026350), .lit (.int .u32 2456956037), .lit (.int .u32 2730485921), .lit (.int .u32 2820302411), .lit (.int .u32 3259730800), .lit (.int .u32 3345764771), .lit (.int .u32 3516065817), .lit (.int .u32 3600352804), .lit (.int .u32 4094571909), .lit (.int .u32 275423344), .lit (.int .u32 430227734), .lit (.int .u32 506948616), .lit (.int .u32 659060556), .lit (.int .u32 883997877), .lit (.int .u32 958139571), .lit (.int .u32 1322822218), .lit (.int .u32 1537002063), .lit (.int .u32 1747873779), .lit (.int .u32 1955562222), .lit (.int .u32 2024104815), .lit (.int .u32 2227730452), .lit (.int .u32 2361852424), .lit (.int .u32 2428436474), .lit (.int .u32 2756734187), .lit (.int .u32 3204031479), .lit (.int .u32 3329325298)]

/-- 'testamurlaw50.EvidenceAddSpec': WHATEVER THE INPUT: true; the input reads as it did. -/
def evidenceAddSpecSpec : ChangeSpec := { name := "evidenceAddSpec", fn := fun _ => fun
  | [d1, d2, d3, d4, d5] => { results := [.lit (.bool true)], args := [d1, d2, d3, d4, d5] }
  | _ => none }
def evidenceAddSpecRow : OpenClaim := { program := "ytfgcfokcmlkmfaadoor", sum := "42b0562971eff2281988131146bc74fed6e964c54d6e65711a24fb775e3caf25", func := "testamur/testamurlaw50.EvidenceAddSpec", spec := "evidenceAddSpec", unfollowed := true, recurses := true, named := ["testamur/digest.constants"], apart := false, laid := [("testamur/digest.constants", laid_testamur_digest_constants)] }
def EvidenceAddSpecSaid : Prop := evidenceAddSpecRow.holds Tryd.pinned (OpenSpec.ofChange evidenceAddSpecSpec)

/-- ITS FALSE NEIGHBOUR: 'it returns false'. Refute it at one input. -/
def evidenceAddSpecWrong : ChangeSpec := { name := "evidenceAddSpec", fn := fun _ => fun
  | [d1, d2, d3, d4, d5] => { results := [.lit (.bool false)], args := [d1, d2, d3, d4, d5] }
  | _ => none }
def EvidenceAddSpecWrongFalsely : Prop := evidenceAddSpecRow.holds Tryd.pinned (OpenSpec.ofChange evidenceAddSpecWrong)

/-- 'testamurlaw50.EvidenceCodeSpec': WHATEVER THE INPUT: true; the input reads as it did. -/
def evidenceCodeSpecSpec : ChangeSpec := { name := "evidenceCodeSpec", fn := fun _ => fun
  | [d1, d2, d3] => { results := [.lit (.bool true)], args := [d1, d2, d3] }
  | _ => none }
def evidenceCodeSpecRow : OpenClaim := { program := "ytfgcfokcmlkmfaadoor", sum := "42b0562971eff2281988131146bc74fed6e964c54d6e65711a24fb775e3caf25", func := "testamur/testamurlaw50.EvidenceCodeSpec", spec := "evidenceCodeSpec", unfollowed := true, recurses := true, named := ["testamur/digest.constants"], apart := false, laid := [("testamur/digest.constants", laid_testamur_digest_constants)] }
def EvidenceCodeSpecSaid : Prop := evidenceCodeSpecRow.holds Tryd.pinned (OpenSpec.ofChange evidenceCodeSpecSpec)

/-- ITS FALSE NEIGHBOUR: 'it returns false'. Refute it at one input. -/
def evidenceCodeSpecWrong : ChangeSpec := { name := "evidenceCodeSpec", fn := fun _ => fun
  | [d1, d2, d3] => { results := [.lit (.bool false)], args := [d1, d2, d3] }
  | _ => none }
def EvidenceCodeSpecWrongFalsely : Prop := evidenceCodeSpecRow.holds Tryd.pinned (OpenSpec.ofChange evidenceCodeSpecWrong)

/-- 'testamurlaw50.EvidenceBrokenSpec': WHATEVER THE INPUT: true; the input reads as it did. -/
def evidenceBrokenSpecSpec : ChangeSpec := { name := "evidenceBrokenSpec", fn := fun _ => fun
  | [d1, d2] => { results := [.lit (.bool true)], args := [d1, d2] }
  | _ => none }
def evidenceBrokenSpecRow : OpenClaim := { program := "ytfgcfokcmlkmfaadoor", sum := "42b0562971eff2281988131146bc74fed6e964c54d6e65711a24fb775e3caf25", func := "testamur/testamurlaw50.EvidenceBrokenSpec", spec := "evidenceBrokenSpec", unfollowed := true, recurses := true, named := ["testamur/digest.constants"], apart := false, laid := [("testamur/digest.constants", laid_testamur_digest_constants)] }
def EvidenceBrokenSpecSaid : Prop := evidenceBrokenSpecRow.holds Tryd.pinned (OpenSpec.ofChange evidenceBrokenSpecSpec)

/-- ITS FALSE NEIGHBOUR: 'it returns false'. Refute it at one input. -/
def evidenceBrokenSpecWrong : ChangeSpec := { name := "evidenceBrokenSpec", fn := fun _ => fun
  | [d1, d2] => { results := [.lit (.bool false)], args := [d1, d2] }
  | _ => none }
def EvidenceBrokenSpecWrongFalsely : Prop := evidenceBrokenSpecRow.holds Tryd.pinned (OpenSpec.ofChange evidenceBrokenSpecWrong)

/-- 'testamurlaw50.EvidenceOne': WHATEVER THE INPUT: true; the input reads as it did. -/
def evidenceOneSpec : ChangeSpec := { name := "evidenceOne", fn := fun _ => fun
  | [d1, d2] => { results := [.lit (.bool true)], args := [d1, d2] }
  | _ => none }
def evidenceOneRow : OpenClaim := { program := "ytfgcfokcmlkmfaadoor", sum := "42b0562971eff2281988131146bc74fed6e964c54d6e65711a24fb775e3caf25", func := "testamur/testamurlaw50.EvidenceOne", spec := "evidenceOne", unfollowed := true, recurses := true, named := ["testamur/digest.constants"], apart := false, laid := [("testamur/digest.constants", laid_testamur_digest_constants)] }
def EvidenceOneSaid : Prop := evidenceOneRow.holds Tryd.pinned (OpenSpec.ofChange evidenceOneSpec)

/-- ITS FALSE NEIGHBOUR: 'it returns false'. Refute it at one input. -/
def evidenceOneWrong : ChangeSpec := { name := "evidenceOne", fn := fun _ => fun
  | [d1, d2] => { results := [.lit (.bool false)], args := [d1, d2] }
  | _ => none }
def EvidenceOneWrongFalsely : Prop := evidenceOneRow.holds Tryd.pinned (OpenSpec.ofChange evidenceOneWrong)

/-- 'testamurlaw50.EvidenceChanged': WHATEVER THE INPUT: true; the input reads as it did. -/
def evidenceChangedSpec : ChangeSpec := { name := "evidenceChanged", fn := fun _ => fun
  | [d1, d2, d3] => { results := [.lit (.bool true)], args := [d1, d2, d3] }
  | _ => none }
def evidenceChangedRow : OpenClaim := { program := "ytfgcfokcmlkmfaadoor", sum := "42b0562971eff2281988131146bc74fed6e964c54d6e65711a24fb775e3caf25", func := "testamur/testamurlaw50.EvidenceChanged", spec := "evidenceChanged", unfollowed := true, recurses := true, named := ["testamur/digest.constants"], apart := false, laid := [("testamur/digest.constants", laid_testamur_digest_constants)] }
def EvidenceChangedSaid : Prop := evidenceChangedRow.holds Tryd.pinned (OpenSpec.ofChange evidenceChangedSpec)

/-- ITS FALSE NEIGHBOUR: 'it returns false'. Refute it at one input. -/
def evidenceChangedWrong : ChangeSpec := { name := "evidenceChanged", fn := fun _ => fun
  | [d1, d2, d3] => { results := [.lit (.bool false)], args := [d1, d2, d3] }
  | _ => none }
def EvidenceChangedWrongFalsely : Prop := evidenceChangedRow.holds Tryd.pinned (OpenSpec.ofChange evidenceChangedWrong)

/-- 'testamurlaw50.EvidenceGrows': WHATEVER THE INPUT: true; the input reads as it did. -/
def evidenceGrowsSpec : ChangeSpec := { name := "evidenceGrows", fn := fun _ => fun
  | [d1, d2, d3, d4] => { results := [.lit (.bool true)], args := [d1, d2, d3, d4] }
  | _ => none }
def evidenceGrowsRow : OpenClaim := { program := "ytfgcfokcmlkmfaadoor", sum := "42b0562971eff2281988131146bc74fed6e964c54d6e65711a24fb775e3caf25", func := "testamur/testamurlaw50.EvidenceGrows", spec := "evidenceGrows", unfollowed := true, recurses := true, named := ["testamur/digest.constants"], apart := false, laid := [("testamur/digest.constants", laid_testamur_digest_constants)] }
def EvidenceGrowsSaid : Prop := evidenceGrowsRow.holds Tryd.pinned (OpenSpec.ofChange evidenceGrowsSpec)

/-- ITS FALSE NEIGHBOUR: 'it returns false'. Refute it at one input. -/
def evidenceGrowsWrong : ChangeSpec := { name := "evidenceGrows", fn := fun _ => fun
  | [d1, d2, d3, d4] => { results := [.lit (.bool false)], args := [d1, d2, d3, d4] }
  | _ => none }
def EvidenceGrowsWrongFalsely : Prop := evidenceGrowsRow.holds Tryd.pinned (OpenSpec.ofChange evidenceGrowsWrong)

/-- 'testamurlaw50.EvidenceBack': WHATEVER THE INPUT: true; the input reads as it did. -/
def evidenceBackSpec : ChangeSpec := { name := "evidenceBack", fn := fun _ => fun
  | [d1, d2] => { results := [.lit (.bool true)], args := [d1, d2] }
  | _ => none }
def evidenceBackRow : OpenClaim := { program := "ytfgcfokcmlkmfaadoor", sum := "42b0562971eff2281988131146bc74fed6e964c54d6e65711a24fb775e3caf25", func := "testamur/testamurlaw50.EvidenceBack", spec := "evidenceBack", unfollowed := true, recurses := true, named := ["testamur/digest.constants"], apart := false, laid := [("testamur/digest.constants", laid_testamur_digest_constants)] }
def EvidenceBackSaid : Prop := evidenceBackRow.holds Tryd.pinned (OpenSpec.ofChange evidenceBackSpec)

/-- ITS FALSE NEIGHBOUR: 'it returns false'. Refute it at one input. -/
def evidenceBackWrong : ChangeSpec := { name := "evidenceBack", fn := fun _ => fun
  | [d1, d2] => { results := [.lit (.bool false)], args := [d1, d2] }
  | _ => none }
def EvidenceBackWrongFalsely : Prop := evidenceBackRow.holds Tryd.pinned (OpenSpec.ofChange evidenceBackWrong)

/- THE SECOND FORM. 'bulk': how many values and letters a reading holds, each counted each time it is reached (what is shared counts as often as it is met; a slice's spare places count too). A statement '..UptoSaid' is the law's where the arguments, and the package variables that the reading takes, are together of bulk at most 1048576: NARROWER than '..Said'. Prove '..Said' where nothing that the law and all that it calls make is longer than what came in: it says more and counts as full. Else prove '..UptoSaid'. A law counts once. -/
mutual
def uptoBulk {H : Type} : DataW H → Nat
  | .lit (.string bytes) => bytes.length + 1
  | .lit _ => 1
  | .nil => 1
  | .ptr d => uptoBulk d + 1
  | .slice elems spare => uptoBulkAll elems + uptoBulkAll spare + 1
  | .agg parts => uptoBulkAll parts + 1
  | .iface _ d => uptoBulk d + 1
  | .map entries => uptoBulkEntries entries + 1
  | .held _ => 1
def uptoBulkAll {H : Type} : List (DataW H) → Nat
  | [] => 0
  | d :: r => uptoBulk d + uptoBulkAll r
def uptoBulkEntries {H : Type} : List (Lit × DataW H) → Nat
  | [] => 0
  | x :: r => uptoBulkEntry x + uptoBulkEntries r
def uptoBulkEntry {H : Type} : Lit × DataW H → Nat
  | (.string bytes, d) => bytes.length + uptoBulk d + 1
  | (_, d) => uptoBulk d + 1
 end
def uptoSmall : (H : Type) → List (DataW H) → Bool := fun _ ds => decide (uptoBulkAll ds ≤ 1048576)
def OpenSpec.upto (s : _root_.Go.ChangeSpec) : _root_.Go.OpenSpec := { _root_.Go.OpenSpec.ofChange s with cond := some uptoSmall }

/-- 'testamurlaw50.EvidenceAddSpec', WHERE WHAT IT READS IS OF BULK AT MOST 1048576: true; the input reads as it did. -/
def evidenceAddSpecUptoRow : OpenClaim := { program := "ytfgcfokcmlkmfaadoor", sum := "42b0562971eff2281988131146bc74fed6e964c54d6e65711a24fb775e3caf25", func := "testamur/testamurlaw50.EvidenceAddSpec", spec := "evidenceAddSpec", unfollowed := true, recurses := true, named := ["testamur/digest.constants"], apart := false, laid := [("testamur/digest.constants", laid_testamur_digest_constants)], narrowed := true }
def EvidenceAddSpecUptoSaid : Prop := evidenceAddSpecUptoRow.holds Tryd.pinned (OpenSpec.upto evidenceAddSpecSpec)

/-- 'testamurlaw50.EvidenceCodeSpec', WHERE WHAT IT READS IS OF BULK AT MOST 1048576: true; the input reads as it did. -/
def evidenceCodeSpecUptoRow : OpenClaim := { program := "ytfgcfokcmlkmfaadoor", sum := "42b0562971eff2281988131146bc74fed6e964c54d6e65711a24fb775e3caf25", func := "testamur/testamurlaw50.EvidenceCodeSpec", spec := "evidenceCodeSpec", unfollowed := true, recurses := true, named := ["testamur/digest.constants"], apart := false, laid := [("testamur/digest.constants", laid_testamur_digest_constants)], narrowed := true }
def EvidenceCodeSpecUptoSaid : Prop := evidenceCodeSpecUptoRow.holds Tryd.pinned (OpenSpec.upto evidenceCodeSpecSpec)

/-- 'testamurlaw50.EvidenceBrokenSpec', WHERE WHAT IT READS IS OF BULK AT MOST 1048576: true; the input reads as it did. -/
def evidenceBrokenSpecUptoRow : OpenClaim := { program := "ytfgcfokcmlkmfaadoor", sum := "42b0562971eff2281988131146bc74fed6e964c54d6e65711a24fb775e3caf25", func := "testamur/testamurlaw50.EvidenceBrokenSpec", spec := "evidenceBrokenSpec", unfollowed := true, recurses := true, named := ["testamur/digest.constants"], apart := false, laid := [("testamur/digest.constants", laid_testamur_digest_constants)], narrowed := true }
def EvidenceBrokenSpecUptoSaid : Prop := evidenceBrokenSpecUptoRow.holds Tryd.pinned (OpenSpec.upto evidenceBrokenSpecSpec)

/-- 'testamurlaw50.EvidenceOne', WHERE WHAT IT READS IS OF BULK AT MOST 1048576: true; the input reads as it did. -/
def evidenceOneUptoRow : OpenClaim := { program := "ytfgcfokcmlkmfaadoor", sum := "42b0562971eff2281988131146bc74fed6e964c54d6e65711a24fb775e3caf25", func := "testamur/testamurlaw50.EvidenceOne", spec := "evidenceOne", unfollowed := true, recurses := true, named := ["testamur/digest.constants"], apart := false, laid := [("testamur/digest.constants", laid_testamur_digest_constants)], narrowed := true }
def EvidenceOneUptoSaid : Prop := evidenceOneUptoRow.holds Tryd.pinned (OpenSpec.upto evidenceOneSpec)

/-- 'testamurlaw50.EvidenceChanged', WHERE WHAT IT READS IS OF BULK AT MOST 1048576: true; the input reads as it did. -/
def evidenceChangedUptoRow : OpenClaim := { program := "ytfgcfokcmlkmfaadoor", sum := "42b0562971eff2281988131146bc74fed6e964c54d6e65711a24fb775e3caf25", func := "testamur/testamurlaw50.EvidenceChanged", spec := "evidenceChanged", unfollowed := true, recurses := true, named := ["testamur/digest.constants"], apart := false, laid := [("testamur/digest.constants", laid_testamur_digest_constants)], narrowed := true }
def EvidenceChangedUptoSaid : Prop := evidenceChangedUptoRow.holds Tryd.pinned (OpenSpec.upto evidenceChangedSpec)

/-- 'testamurlaw50.EvidenceGrows', WHERE WHAT IT READS IS OF BULK AT MOST 1048576: true; the input reads as it did. -/
def evidenceGrowsUptoRow : OpenClaim := { program := "ytfgcfokcmlkmfaadoor", sum := "42b0562971eff2281988131146bc74fed6e964c54d6e65711a24fb775e3caf25", func := "testamur/testamurlaw50.EvidenceGrows", spec := "evidenceGrows", unfollowed := true, recurses := true, named := ["testamur/digest.constants"], apart := false, laid := [("testamur/digest.constants", laid_testamur_digest_constants)], narrowed := true }
def EvidenceGrowsUptoSaid : Prop := evidenceGrowsUptoRow.holds Tryd.pinned (OpenSpec.upto evidenceGrowsSpec)

/-- 'testamurlaw50.EvidenceBack', WHERE WHAT IT READS IS OF BULK AT MOST 1048576: true; the input reads as it did. -/
def evidenceBackUptoRow : OpenClaim := { program := "ytfgcfokcmlkmfaadoor", sum := "42b0562971eff2281988131146bc74fed6e964c54d6e65711a24fb775e3caf25", func := "testamur/testamurlaw50.EvidenceBack", spec := "evidenceBack", unfollowed := true, recurses := true, named := ["testamur/digest.constants"], apart := false, laid := [("testamur/digest.constants", laid_testamur_digest_constants)], narrowed := true }
def EvidenceBackUptoSaid : Prop := evidenceBackUptoRow.holds Tryd.pinned (OpenSpec.upto evidenceBackSpec)

end Rows
end Go.Proofs.YtfgcfokcmlkmfaaDoor
