/- Journals: the statement 'JournalAppendSpec' in its first form. Conditions: none. -/
import Derived.Test.YtcgpikmaapallaaWe
import Derived.Test.YtcgpikmaapallaaWo
import Derived.Test.YtcgpikmaapallaaRows
set_option linter.unusedSimpArgs false
set_option linter.unusedVariables false
set_option maxRecDepth 20000
set_option maxHeartbeats 4000000
namespace Go.Proofs.Ytcgpikmaapallaa
open Go.Avc
theorem journalAppendSpec_lifted (os : Os) (started : os.Started) (H : Type) (enc : TypeId × Value → H) :
   ReturnsInHanded {} Try.checked os 4 .any (Rows.journalAppendSpecSpec.pre6 enc Try.prog Try.f4 Rows.journalAppendSpecRow.domain false) (Rows.journalAppendSpecSpec.post enc Try.prog Try.f4 false true false false) := by
 refine law_lifted (C := Try.checked) (n := 2) own started (by kernel_rfl) Try.func4
   (ChangeSpec.witness6 (enc := enc) (C := Try.checked) false ⟨#[], #[.agg #[.slice none 0 0, .int .i64 0, .int .i64 0], .slice none 0 0], []⟩ 8 (by kernel_rfl) (by kernel_rfl) (by kernel_rfl) (by kernel_rfl))
   laidOut ⟨rfl, fun H ds hd => ?_⟩ rfl rfl Try.underlying4 (by kernel_rfl) (Qs := [_, _]) ⟨op_jour, op_bytes, trivial⟩ (gs := [true, false]) (by kernel_rfl) ?_
 · match ds, hd with
   | [d0, d1], _ => rfl
 · rintro _ ⟨j, rfl, hj, kj⟩ _ ⟨b, rfl, hb⟩
   exact appendLaw_wide j b hj kj hb
theorem journalAppendSpec_proved : Rows.JournalAppendSpecSaid :=
 OpenClaim.holds_of_wide 4 Try.f4 rfl rfl rfl rfl rfl rfl rfl ⟨rfl, rfl, rfl, rfl, rfl⟩ rfl rfl rfl rfl rfl (by kernel_rfl) Try.func4 (by kernel_rfl)
   (of_decide_eq_true (by kernel_rfl)) (by unfold Func.isWrapper; first | (rw [if_pos (by decide +kernel)]; kernel_rfl) | (rw [if_neg (by decide +kernel)]; exact ⟨rfl, rfl⟩))
   (fun os started H enc _ => journalAppendSpec_lifted os started H enc)
end Go.Proofs.Ytcgpikmaapallaa
