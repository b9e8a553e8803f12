/- Networks: the statement 'NetworkAll'. Conditions: none. -/
import Derived.Test.YtlploeedieenbaaWl
import Derived.Test.YtlploeedieenbaaWj
import Derived.Test.YtlploeedieenbaaRows
set_option linter.unusedSimpArgs false
set_option linter.unusedVariables false
namespace Go.Proofs.Ytlploeedieenbaa
open Go.Avc
theorem networkAll_lifted (os : Os) (started : os.Started) (H : Type) (enc : TypeId × Value → H) :
    ReturnsInHanded {} Try.checked os 6 .any (Rows.networkAllSpec.pre6 enc Try.prog Try.f6 Rows.networkAllRow.domain false) (Rows.networkAllSpec.post enc Try.prog Try.f6 false true false false) := by
  refine law_lifted (C := Try.checked) (n := 2) own started (by kernel_rfl) Try.func6
    (ChangeSpec.witness6 (enc := enc) (C := Try.checked) false ⟨#[], #[.slice none 0 0, .slice none 0 0], []⟩ 8 (by kernel_rfl) (by kernel_rfl) (by kernel_rfl) (by kernel_rfl))
    laidOut ⟨rfl, fun H ds hd => ?_⟩ rfl rfl Try.underlying4 (by kernel_rfl) (Qs := [_, _]) ⟨op_q, op_bytes, trivial⟩ (gs := [false, false]) (by kernel_rfl) ?_
  · match ds, hd with
    | [d0, d1], _ => rfl
  · rintro _ ⟨l, rfl⟩ _ ⟨b, rfl⟩
    exact all_law l b
theorem networkAll_proved : Rows.NetworkAllSaid :=
  OpenClaim.holds_of_wide 6 Try.f6 rfl rfl rfl rfl rfl rfl rfl ⟨rfl, rfl, rfl, rfl, rfl⟩ rfl rfl rfl rfl rfl (by kernel_rfl) Try.func6 (by kernel_rfl)
    (of_decide_eq_true (by kernel_rfl)) (by unfold Func.isWrapper; first | (rw [if_pos (by decide +kernel)]; kernel_rfl) | (rw [if_neg (by decide +kernel)]; exact ⟨rfl, rfl⟩))
    (fun os started H enc _ => networkAll_lifted os started H enc)
end Go.Proofs.Ytlploeedieenbaa
