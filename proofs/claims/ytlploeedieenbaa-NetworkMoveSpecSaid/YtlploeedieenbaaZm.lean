/- Networks: the statement 'NetworkMoveSpec'. Conditions: none. -/
import Derived.Test.YtlploeedieenbaaWl
import Derived.Test.YtlploeedieenbaaWi
import Derived.Test.YtlploeedieenbaaRows
set_option linter.unusedSimpArgs false
set_option linter.unusedVariables false
namespace Go.Proofs.Ytlploeedieenbaa
open Go.Avc
theorem networkMoveSpec_lifted (os : Os) (started : os.Started) (H : Type) (enc : TypeId × Value → H) :
    ReturnsInHanded {} Try.checked os 4 .any (Rows.networkMoveSpecSpec.pre6 enc Try.prog Try.f4 Rows.networkMoveSpecRow.domain false) (Rows.networkMoveSpecSpec.post enc Try.prog Try.f4 false true false false) := by
  refine law_lifted (C := Try.checked) (n := 5) own started (by kernel_rfl) Try.func4
    (ChangeSpec.witness6 (enc := enc) (C := Try.checked) false ⟨#[], #[.agg #[.slice none 0 0, .slice none 0 0], .int .i64 0, .int .i64 0, .int .i64 0, .bool false], []⟩ 8 (by kernel_rfl) (by kernel_rfl) (by kernel_rfl) (by kernel_rfl))
    laidOut ⟨rfl, fun H ds hd => ?_⟩ rfl rfl Try.underlying4 (by kernel_rfl) (Qs := [_, _, _, _, _]) ⟨op_net, op_int, op_int, op_int, op_bools, trivial⟩ (gs := [true, false, false, false, false]) (by kernel_rfl) ?_
  · match ds, hd with
    | [d0, d1, d2, d3, d4], _ => rfl
  · rintro _ ⟨n, rfl⟩ _ ⟨i, rfl⟩ _ ⟨a, rfl⟩ _ ⟨b, rfl⟩ _ ⟨o, rfl⟩
    exact netMove_law n i a b o
theorem networkMoveSpec_proved : Rows.NetworkMoveSpecSaid :=
  OpenClaim.holds_of_wide 4 Try.f4 rfl rfl rfl rfl rfl rfl rfl ⟨rfl, rfl, rfl, rfl, rfl⟩ rfl rfl rfl rfl rfl (by kernel_rfl) Try.func4 (by kernel_rfl)
    (of_decide_eq_true (by kernel_rfl)) (by unfold Func.isWrapper; first | (rw [if_pos (by decide +kernel)]; kernel_rfl) | (rw [if_neg (by decide +kernel)]; exact ⟨rfl, rfl⟩))
    (fun os started H enc _ => networkMoveSpec_lifted os started H enc)
end Go.Proofs.Ytlploeedieenbaa
