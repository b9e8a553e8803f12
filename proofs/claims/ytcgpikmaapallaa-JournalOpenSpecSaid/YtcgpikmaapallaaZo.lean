/- Journals: the statement 'JournalOpenSpec' in its first form. Conditions: none. -/
import Derived.Test.YtcgpikmaapallaaWe
import Derived.Test.YtcgpikmaapallaaWn
import Derived.Test.YtcgpikmaapallaaRows
set_option linter.unusedSimpArgs false
set_option linter.unusedVariables false
set_option maxRecDepth 20000
set_option maxHeartbeats 4000000
namespace Go.Proofs.Ytcgpikmaapallaa
open Go.Avc
theorem journalOpenSpec_lifted (os : Os) (started : os.Started) (H : Type) (enc : TypeId × Value → H) :
   ReturnsInHanded {} Try.checked os 3 .any (Rows.journalOpenSpecSpec.pre6 enc Try.prog Try.f3 Rows.journalOpenSpecRow.domain false) (Rows.journalOpenSpecSpec.post enc Try.prog Try.f3 false true false false) := by
 refine law_lifted (C := Try.checked) (n := 1) own started (by kernel_rfl) Try.func3
   (ChangeSpec.witness6 (enc := enc) (C := Try.checked) false ⟨#[], #[.agg #[.slice none 0 0, .slice none 0 0, .int .i64 0, .bool false]], []⟩ 8 (by kernel_rfl) (by kernel_rfl) (by kernel_rfl) (by kernel_rfl))
   laidOut ⟨rfl, fun H ds hd => ?_⟩ rfl rfl Try.underlying4 (by kernel_rfl) (Qs := [_]) ⟨op_disk, trivial⟩ (gs := [true]) (by kernel_rfl) ?_
 · match ds, hd with
   | [d0], _ => rfl
 · rintro _ ⟨d, rfl⟩
   exact openLaw_spec d
theorem journalOpenSpec_proved : Rows.JournalOpenSpecSaid :=
 OpenClaim.holds_of_wide 3 Try.f3 rfl rfl rfl rfl rfl rfl rfl ⟨rfl, rfl, rfl, rfl, rfl⟩ rfl rfl rfl rfl rfl (by kernel_rfl) Try.func3 (by kernel_rfl)
   (of_decide_eq_true (by kernel_rfl)) (by unfold Func.isWrapper; first | (rw [if_pos (by decide +kernel)]; kernel_rfl) | (rw [if_neg (by decide +kernel)]; exact ⟨rfl, rfl⟩))
   (fun os started H enc _ => journalOpenSpec_lifted os started H enc)
end Go.Proofs.Ytcgpikmaapallaa
