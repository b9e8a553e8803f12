/- Versions: the statement 'VersionsValid'. Conditions: none. -/
import Derived.Test.YtihbkbioafdhjaaWt
import Derived.Test.YtihbkbioafdhjaaWs
import Derived.Test.YtihbkbioafdhjaaRows
set_option linter.unusedSimpArgs false
set_option linter.unusedVariables false
set_option maxRecDepth 20000
set_option maxHeartbeats 4000000
namespace Go.Proofs.Ytihbkbioafdhjaa
open Go.Avc
theorem versionsValid_lifted (os : Os) (started : os.Started) (H : Type) (enc : TypeId × Value → H) :
   ReturnsInHanded {} Try.checked os 8 .any (Rows.versionsValidSpec.pre6 enc Try.prog Try.f8 Rows.versionsValidRow.domain false) (Rows.versionsValidSpec.post enc Try.prog Try.f8 false true false false) := by
 refine law_lifted (C := Try.checked) (n := 3) own started (by kernel_rfl) Try.func8
   (ChangeSpec.witness6 (enc := enc) (C := Try.checked) false ⟨#[], #[.agg #[.slice none 0 0, .slice none 0 0, .slice none 0 0, .slice none 0 0, .slice none 0 0, .slice none 0 0], .int .i64 0, .agg #[.int .i64 0, .slice none 0 0, .slice none 0 0]], []⟩ 8 (by kernel_rfl) (by kernel_rfl) (by kernel_rfl) (by kernel_rfl))
   laidOut ⟨rfl, fun H ds hd => ?_⟩ rfl rfl Try.underlying4 (by kernel_rfl) (Qs := [_, _, _]) ⟨op_src, op_int, op_cl, trivial⟩ (gs := [true, false, true]) (by kernel_rfl) ?_
 · match ds, hd with
   | [d0, d1, d2], _ => rfl
 · rintro _ ⟨s, rfl, hs, hg⟩ _ ⟨n, rfl⟩ _ ⟨c, rfl, h1, h2⟩
   exact valid_law s hs hg n c h1 h2
theorem versionsValid_proved : Rows.VersionsValidSaid :=
 OpenClaim.holds_of_wide 8 Try.f8 rfl rfl rfl rfl rfl rfl rfl ⟨rfl, rfl, rfl, rfl, rfl⟩ rfl rfl rfl rfl rfl (by kernel_rfl) Try.func8 (by kernel_rfl)
   (of_decide_eq_true (by kernel_rfl)) (by unfold Func.isWrapper; first | (rw [if_pos (by decide +kernel)]; kernel_rfl) | (rw [if_neg (by decide +kernel)]; exact ⟨rfl, rfl⟩))
   (fun os started H enc _ => versionsValid_lifted os started H enc)
end Go.Proofs.Ytihbkbioafdhjaa
