/- Journals: the statement 'JournalSurvives' in its first form. Conditions: none. -/
import Derived.Test.YtcgpikmaapallaaWe
import Derived.Test.YtcgpikmaapallaaWk
import Derived.Test.YtcgpikmaapallaaRows
set_option linter.unusedSimpArgs false
set_option linter.unusedVariables false
set_option maxRecDepth 20000
set_option maxHeartbeats 4000000
namespace Go.Proofs.Ytcgpikmaapallaa
open Go.Avc
theorem journalSurvives_lifted (os : Os) (started : os.Started) (H : Type) (enc : TypeId × Value → H) :
   ReturnsInHanded {} Try.checked os 8 .any (Rows.journalSurvivesSpec.pre6 enc Try.prog Try.f8 Rows.journalSurvivesRow.domain false) (Rows.journalSurvivesSpec.post enc Try.prog Try.f8 false true false false) := by
 refine law_lifted (C := Try.checked) (n := 2) own started (by kernel_rfl) Try.func8
   (ChangeSpec.witness6 (enc := enc) (C := Try.checked) false ⟨#[], #[.int .u8 0, .slice none 0 0], []⟩ 8 (by kernel_rfl) (by kernel_rfl) (by kernel_rfl) (by kernel_rfl))
   laidOut ⟨rfl, fun H ds hd => ?_⟩ rfl rfl Try.underlying4 (by kernel_rfl) (Qs := [_, _]) ⟨op_byte, op_script, trivial⟩ (gs := [false, false]) (by kernel_rfl) ?_
 · match ds, hd with
   | [d0, d1], _ => rfl
 · rintro _ ⟨y, rfl⟩ _ ⟨sc, rfl, hsc⟩
   exact survives_wide y sc hsc
theorem journalSurvives_proved : Rows.JournalSurvivesSaid :=
 OpenClaim.holds_of_wide 8 Try.f8 rfl rfl rfl rfl rfl rfl rfl ⟨rfl, rfl, rfl, rfl, rfl⟩ rfl rfl rfl rfl rfl (by kernel_rfl) Try.func8 (by kernel_rfl)
   (of_decide_eq_true (by kernel_rfl)) (by unfold Func.isWrapper; first | (rw [if_pos (by decide +kernel)]; kernel_rfl) | (rw [if_neg (by decide +kernel)]; exact ⟨rfl, rfl⟩))
   (fun os started H enc _ => journalSurvives_lifted os started H enc)
end Go.Proofs.Ytcgpikmaapallaa
