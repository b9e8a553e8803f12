/- Networks: the statement 'NetworkCuts'. Conditions: none. -/
import Derived.Test.YtlploeedieenbaaWl
import Derived.Test.YtlploeedieenbaaWj
import Derived.Test.YtlploeedieenbaaRows
set_option linter.unusedSimpArgs false
set_option linter.unusedVariables false
namespace Go.Proofs.Ytlploeedieenbaa
open Go.Avc
theorem networkCuts_lifted (os : Os) (started : os.Started) (H : Type) (enc : TypeId × Value → H) :
    ReturnsInHanded {} Try.checked os 7 .any (Rows.networkCutsSpec.pre6 enc Try.prog Try.f7 Rows.networkCutsRow.domain false) (Rows.networkCutsSpec.post enc Try.prog Try.f7 false true false false) := by
  refine law_lifted (C := Try.checked) (n := 4) own started (by kernel_rfl) Try.func7
    (ChangeSpec.witness6 (enc := enc) (C := Try.checked) false ⟨#[], #[.agg #[.slice none 0 0, .slice none 0 0], .int .i64 0, .int .i64 0, .int .u64 0], []⟩ 8 (by kernel_rfl) (by kernel_rfl) (by kernel_rfl) (by kernel_rfl))
    laidOut ⟨rfl, fun H ds hd => ?_⟩ rfl rfl Try.underlying4 (by kernel_rfl) (Qs := [_, _, _, _]) ⟨op_net, op_int, op_int, op_uint, trivial⟩ (gs := [true, false, false, false]) (by kernel_rfl) ?_
  · match ds, hd with
    | [d0, d1, d2, d3], _ => rfl
  · rintro _ ⟨n, rfl⟩ _ ⟨a, rfl⟩ _ ⟨b, rfl⟩ _ ⟨m, rfl⟩
    exact cuts_law n a b m
theorem networkCuts_proved : Rows.NetworkCutsSaid :=
  OpenClaim.holds_of_wide 7 Try.f7 rfl rfl rfl rfl rfl rfl rfl ⟨rfl, rfl, rfl, rfl, rfl⟩ rfl rfl rfl rfl rfl (by kernel_rfl) Try.func7 (by kernel_rfl)
    (of_decide_eq_true (by kernel_rfl)) (by unfold Func.isWrapper; first | (rw [if_pos (by decide +kernel)]; kernel_rfl) | (rw [if_neg (by decide +kernel)]; exact ⟨rfl, rfl⟩))
    (fun os started H enc _ => networkCuts_lifted os started H enc)
end Go.Proofs.Ytlploeedieenbaa
