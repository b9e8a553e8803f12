/- Evidence: the tied card 'EvidenceChanged'. Conditions: none. -/
import Derived.Test.YtfgcfokcmlkmfaaDoorWn
import Derived.Test.YtfgcfokcmlkmfaaDoorWr
set_option linter.unusedSimpArgs false
set_option linter.unusedVariables false
namespace Go.Proofs.YtfgcfokcmlkmfaaDoor
open Go.Avc
set_option maxRecDepth 100000
theorem evidenceChanged_lifted (os : Os) (started : os.Started) (H : Type) (enc : TypeId × Value → H) :
    ReturnsInHanded {} Tryd.checked os 7 .any (fun w args => (Rows.evidenceChangedSpec.pre enc Tryd.prog Tryd.f7 [] false w args ∧ laidMetH Tryd.prog [("testamur/digest.constants", Rows.laid_testamur_digest_constants)] w) ∧ sizedMet enc Tryd.prog Tryd.f7 (OpenSpec.ofChange Rows.evidenceChangedSpec) false w args) (Rows.evidenceChangedSpec.post enc Tryd.prog Tryd.f7 false true false false) := by
  refine law_laid (C := Tryd.checked) (n := 3) own started (by kernel_rfl) Tryd.func7
    (ChangeSpec.witness_shaped (enc := enc) (C := Tryd.checked) (os := os) (X := fun w _ => laidMetH Tryd.prog [("testamur/digest.constants", Rows.laid_testamur_digest_constants)] w) false (World.doorLaid Tryd.prog 400 os) #[.slice none 0 0, .int .u8 0, .agg #[.int .i64 0, .int .i64 0, .int .i64 0, .int .i64 0, .slice none 0 0, .int .u8 0, .int .u8 0, .int .u8 0, .int .u8 0, .int .u8 0, .int .u8 0, .int .u8 0, .int .u8 0, .int .u8 0, .int .u8 0, .int .u8 0, .int .u8 0, .int .u8 0, .int .u8 0, .int .u8 0, .int .u8 0, .int .u8 0, .int .u8 0, .int .u8 0, .int .u8 0, .int .u8 0, .int .u8 0, .int .u8 0, .int .u8 0, .int .u8 0, .int .u8 0, .int .u8 0, .int .u8 0, .int .u8 0, .int .u8 0, .int .u8 0, .int .u8 0]] 8 rfl (World.shaped_of_RefB (by kernel_rfl) (by kernel_rfl)) (by kernel_rfl) (by kernel_rfl) (by kernel_rfl) (door_met os _))
    laidOut ⟨rfl, fun H ds hd => ?_⟩ rfl rfl Tryd.underlying4 (by kernel_rfl) (Qs := [_, _, _]) ⟨op_recs, op_byte, op_rec, trivial⟩ (gs := [false, false, true]) (by kernel_rfl) ?_ kGlob
  · match ds, hd with
    | [d0, d1, d2], _ => rfl
  · rintro _ ⟨l, rfl, hl⟩ _ ⟨u, rfl⟩ _ ⟨r, rfl, hr, gr⟩
    exact changed_spec l u r hl hr gr
theorem evidenceChanged_proved : Rows.EvidenceChangedSaid :=
  OpenClaim.holds_of_wide 7 Tryd.f7 rfl rfl rfl rfl rfl rfl rfl ⟨rfl, rfl, rfl, rfl, rfl⟩ rfl rfl rfl rfl rfl (by kernel_rfl) Tryd.func7 (by kernel_rfl)
    (of_decide_eq_true (by kernel_rfl)) (by unfold Func.isWrapper; first | (rw [if_pos (by decide +kernel)]; kernel_rfl) | (rw [if_neg (by decide +kernel)]; exact ⟨rfl, rfl⟩))
    (fun os started H enc _ => evidenceChanged_lifted os started H enc)
theorem evidenceChanged_card : Rows.EvidenceChangedCardSaid :=
  Claim7.holds_tied_plain_at .later [] [.data] true Rows.evidenceChangedCard.stood.harness false
    evidenceChanged_proved (fun _ h => by cases h) (by kernel_rfl) (fun _ h => by cases h) evidenceChanged_row_tie rfl ⟨rfl, rfl⟩ (by kernel_rfl) rfl
    (fun f fn hf hfn => by
      obtain rfl : f = 7 := Option.some.inj ((show Tryd.prog.funcNamed "testamur/testamurlaw50.EvidenceChanged" = some 7 by kernel_rfl).symm.trans hf) |>.symm
      obtain rfl : fn = Tryd.f7 := (Option.some.inj (Tryd.func7.symm.trans hfn)).symm
      exact ⟨by kernel_rfl, fun j t ht => by
        have hall : (Tryd.f7.params.toList.all fun u => !Tryd.prog.wantsStandIn u) = true := by kernel_rfl
        exact (show Tryd.prog.wantsStandIn t = false by simpa using List.all_eq_true.1 hall t (Array.mem_toList_iff.2 (Array.mem_of_getElem? ht)))⟩)
    (by kernel_rfl)
end Go.Proofs.YtfgcfokcmlkmfaaDoor
