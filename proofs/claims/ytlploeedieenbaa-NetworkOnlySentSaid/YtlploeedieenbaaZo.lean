/- Networks: the statement 'NetworkOnlySent'. Conditions: none. -/
import Derived.Test.YtlploeedieenbaaWl
import Derived.Test.YtlploeedieenbaaWk
import Derived.Test.YtlploeedieenbaaRows
set_option linter.unusedSimpArgs false
set_option linter.unusedVariables false
namespace Go.Proofs.Ytlploeedieenbaa
open Go.Avc
theorem networkOnlySent_lifted (os : Os) (started : os.Started) (H : Type) (enc : TypeId × Value → H) :
    ReturnsInHanded {} Try.checked os 5 .any (Rows.networkOnlySentSpec.pre6 enc Try.prog Try.f5 Rows.networkOnlySentRow.domain false) (Rows.networkOnlySentSpec.post enc Try.prog Try.f5 false true false false) := by
  refine law_lifted (C := Try.checked) (n := 1) own started (by kernel_rfl) Try.func5
    (ChangeSpec.witness6 (enc := enc) (C := Try.checked) false ⟨#[], #[.slice none 0 0], []⟩ 8 (by kernel_rfl) (by kernel_rfl) (by kernel_rfl) (by kernel_rfl))
    laidOut ⟨rfl, fun H ds hd => ?_⟩ rfl rfl Try.underlying4 (by kernel_rfl) (Qs := [_]) ⟨op_mvs, trivial⟩ (gs := [false]) (by kernel_rfl) ?_
  · match ds, hd with
    | [d0], _ => rfl
  · rintro _ ⟨l, rfl⟩
    exact only_law l
theorem networkOnlySent_proved : Rows.NetworkOnlySentSaid :=
  OpenClaim.holds_of_wide 5 Try.f5 rfl rfl rfl rfl rfl rfl rfl ⟨rfl, rfl, rfl, rfl, rfl⟩ rfl rfl rfl rfl rfl (by kernel_rfl) Try.func5 (by kernel_rfl)
    (of_decide_eq_true (by kernel_rfl)) (by unfold Func.isWrapper; first | (rw [if_pos (by decide +kernel)]; kernel_rfl) | (rw [if_neg (by decide +kernel)]; exact ⟨rfl, rfl⟩))
    (fun os started H enc _ => networkOnlySent_lifted os started H enc)
end Go.Proofs.Ytlploeedieenbaa
