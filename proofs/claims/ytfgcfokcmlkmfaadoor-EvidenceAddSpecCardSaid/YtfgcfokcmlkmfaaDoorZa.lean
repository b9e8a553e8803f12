/- Evidence: the tied card 'EvidenceAddSpec'. Conditions: none. -/
import Derived.Test.YtfgcfokcmlkmfaaDoorWn
import Derived.Test.YtfgcfokcmlkmfaaDoorWo
set_option linter.unusedSimpArgs false
set_option linter.unusedVariables false
namespace Go.Proofs.YtfgcfokcmlkmfaaDoor
open Go.Avc
set_option maxRecDepth 100000
theorem evidenceAddSpec_lifted (os : Os) (started : os.Started) (H : Type) (enc : TypeId × Value → H) :
    ReturnsInHanded {} Tryd.checked os 3 .any (fun w args => (Rows.evidenceAddSpecSpec.pre enc Tryd.prog Tryd.f3 [] false w args ∧ laidMetH Tryd.prog [("testamur/digest.constants", Rows.laid_testamur_digest_constants)] w) ∧ sizedMet enc Tryd.prog Tryd.f3 (OpenSpec.ofChange Rows.evidenceAddSpecSpec) false w args) (Rows.evidenceAddSpecSpec.post enc Tryd.prog Tryd.f3 false true false false) := by
  refine law_laid (C := Tryd.checked) (n := 5) own started (by kernel_rfl) Tryd.func3
    (ChangeSpec.witness_shaped (enc := enc) (C := Tryd.checked) (os := os) (X := fun w _ => laidMetH Tryd.prog [("testamur/digest.constants", Rows.laid_testamur_digest_constants)] w) false (World.doorLaid Tryd.prog 400 os) #[.slice none 0 0, .int .i64 0, .int .i64 0, .int .i64 0, .slice none 0 0] 8 rfl (World.shaped_of_RefB (by kernel_rfl) (by kernel_rfl)) (by kernel_rfl) (by kernel_rfl) (by kernel_rfl) (door_met os _))
    laidOut ⟨rfl, fun H ds hd => ?_⟩ rfl rfl Tryd.underlying4 (by kernel_rfl) (Qs := [_, _, _, _, _]) ⟨op_recs, op_int, op_int, op_int, op_bytes, trivial⟩ (gs := [false, false, false, false, false]) (by kernel_rfl) ?_ kGlob
  · match ds, hd with
    | [d0, d1, d2, d3, d4], _ => rfl
  · rintro _ ⟨l, rfl, hl⟩ _ ⟨p, rfl, hp⟩ _ ⟨k, rfl, hk⟩ _ ⟨d, rfl, hd⟩ _ ⟨b, rfl, hb⟩
    exact addSpec_spec l p k d b hl hb
theorem evidenceAddSpec_proved : Rows.EvidenceAddSpecSaid :=
  OpenClaim.holds_of_wide 3 Tryd.f3 rfl rfl rfl rfl rfl rfl rfl ⟨rfl, rfl, rfl, rfl, rfl⟩ rfl rfl rfl rfl rfl (by kernel_rfl) Tryd.func3 (by kernel_rfl)
    (of_decide_eq_true (by kernel_rfl)) (by unfold Func.isWrapper; first | (rw [if_pos (by decide +kernel)]; kernel_rfl) | (rw [if_neg (by decide +kernel)]; exact ⟨rfl, rfl⟩))
    (fun os started H enc _ => evidenceAddSpec_lifted os started H enc)
theorem evidenceAddSpec_card : Rows.EvidenceAddSpecCardSaid :=
  Claim7.holds_tied_plain_at .later [] [.data] true Rows.evidenceAddSpecCard.stood.harness false
    evidenceAddSpec_proved (fun _ h => by cases h) (by kernel_rfl) (fun _ h => by cases h) evidenceAddSpec_row_tie rfl ⟨rfl, rfl⟩ (by kernel_rfl) rfl
    (fun f fn hf hfn => by
      obtain rfl : f = 3 := Option.some.inj ((show Tryd.prog.funcNamed "testamur/testamurlaw50.EvidenceAddSpec" = some 3 by kernel_rfl).symm.trans hf) |>.symm
      obtain rfl : fn = Tryd.f3 := (Option.some.inj (Tryd.func3.symm.trans hfn)).symm
      exact ⟨by kernel_rfl, fun j t ht => by
        have hall : (Tryd.f3.params.toList.all fun u => !Tryd.prog.wantsStandIn u) = true := by kernel_rfl
        exact (show Tryd.prog.wantsStandIn t = false by simpa using List.all_eq_true.1 hall t (Array.mem_toList_iff.2 (Array.mem_of_getElem? ht)))⟩)
    (by kernel_rfl)
end Go.Proofs.YtfgcfokcmlkmfaaDoor
