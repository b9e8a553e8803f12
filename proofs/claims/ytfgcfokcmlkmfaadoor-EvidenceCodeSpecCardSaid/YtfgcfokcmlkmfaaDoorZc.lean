/- Evidence: the tied card 'EvidenceCodeSpec'. Conditions: none. -/
import Derived.Test.YtfgcfokcmlkmfaaDoorWn
import Derived.Test.YtfgcfokcmlkmfaaDoorWp
set_option linter.unusedSimpArgs false
set_option linter.unusedVariables false
namespace Go.Proofs.YtfgcfokcmlkmfaaDoor
open Go.Avc
set_option maxRecDepth 100000
theorem evidenceCodeSpec_lifted (os : Os) (started : os.Started) (H : Type) (enc : TypeId × Value → H) :
    ReturnsInHanded {} Tryd.checked os 4 .any (fun w args => (Rows.evidenceCodeSpecSpec.pre enc Tryd.prog Tryd.f4 [] false w args ∧ laidMetH Tryd.prog [("testamur/digest.constants", Rows.laid_testamur_digest_constants)] w) ∧ sizedMet enc Tryd.prog Tryd.f4 (OpenSpec.ofChange Rows.evidenceCodeSpecSpec) false w args) (Rows.evidenceCodeSpecSpec.post enc Tryd.prog Tryd.f4 false true false false) := by
  refine law_laid (C := Tryd.checked) (n := 3) own started (by kernel_rfl) Tryd.func4
    (ChangeSpec.witness_shaped (enc := enc) (C := Tryd.checked) (os := os) (X := fun w _ => laidMetH Tryd.prog [("testamur/digest.constants", Rows.laid_testamur_digest_constants)] w) false (World.doorLaid Tryd.prog 400 os) #[.slice none 0 0, .agg #[.int .i64 0, .int .i64 0, .int .i64 0, .int .i64 0, .slice none 0 0, .int .u8 0, .int .u8 0, .int .u8 0, .int .u8 0, .int .u8 0, .int .u8 0, .int .u8 0, .int .u8 0, .int .u8 0, .int .u8 0, .int .u8 0, .int .u8 0, .int .u8 0, .int .u8 0, .int .u8 0, .int .u8 0, .int .u8 0, .int .u8 0, .int .u8 0, .int .u8 0, .int .u8 0, .int .u8 0, .int .u8 0, .int .u8 0, .int .u8 0, .int .u8 0, .int .u8 0, .int .u8 0, .int .u8 0, .int .u8 0, .int .u8 0, .int .u8 0], .slice none 0 0] 8 rfl (World.shaped_of_RefB (by kernel_rfl) (by kernel_rfl)) (by kernel_rfl) (by kernel_rfl) (by kernel_rfl) (door_met os _))
    laidOut ⟨rfl, fun H ds hd => ?_⟩ rfl rfl Tryd.underlying4 (by kernel_rfl) (Qs := [_, _, _]) ⟨op_recs, op_rec, op_bytes, trivial⟩ (gs := [false, true, false]) (by kernel_rfl) ?_ kGlob
  · match ds, hd with
    | [d0, d1, d2], _ => rfl
  · rintro _ ⟨l, rfl, hl⟩ _ ⟨r, rfl, hr, gr⟩ _ ⟨b, rfl, hb⟩
    exact codeSpec_spec l r b hl hr gr hb
theorem evidenceCodeSpec_proved : Rows.EvidenceCodeSpecSaid :=
  OpenClaim.holds_of_wide 4 Tryd.f4 rfl rfl rfl rfl rfl rfl rfl ⟨rfl, rfl, rfl, rfl, rfl⟩ rfl rfl rfl rfl rfl (by kernel_rfl) Tryd.func4 (by kernel_rfl)
    (of_decide_eq_true (by kernel_rfl)) (by unfold Func.isWrapper; first | (rw [if_pos (by decide +kernel)]; kernel_rfl) | (rw [if_neg (by decide +kernel)]; exact ⟨rfl, rfl⟩))
    (fun os started H enc _ => evidenceCodeSpec_lifted os started H enc)
theorem evidenceCodeSpec_card : Rows.EvidenceCodeSpecCardSaid :=
  Claim7.holds_tied_plain_at .later [] [.data] true Rows.evidenceCodeSpecCard.stood.harness false
    evidenceCodeSpec_proved (fun _ h => by cases h) (by kernel_rfl) (fun _ h => by cases h) evidenceCodeSpec_row_tie rfl ⟨rfl, rfl⟩ (by kernel_rfl) rfl
    (fun f fn hf hfn => by
      obtain rfl : f = 4 := Option.some.inj ((show Tryd.prog.funcNamed "testamur/testamurlaw50.EvidenceCodeSpec" = some 4 by kernel_rfl).symm.trans hf) |>.symm
      obtain rfl : fn = Tryd.f4 := (Option.some.inj (Tryd.func4.symm.trans hfn)).symm
      exact ⟨by kernel_rfl, fun j t ht => by
        have hall : (Tryd.f4.params.toList.all fun u => !Tryd.prog.wantsStandIn u) = true := by kernel_rfl
        exact (show Tryd.prog.wantsStandIn t = false by simpa using List.all_eq_true.1 hall t (Array.mem_toList_iff.2 (Array.mem_of_getElem? ht)))⟩)
    (by kernel_rfl)
end Go.Proofs.YtfgcfokcmlkmfaaDoor
