/- Codec: the statement 'CodecEncodeSpec'. Conditions: none. -/
import Derived.Test.YtigfakjppicdlaaWe
import Derived.Test.YtigfakjppicdlaaWi
import Derived.Test.YtigfakjppicdlaaRows
set_option linter.unusedSimpArgs false
set_option linter.unusedVariables false
namespace Go.Proofs.Ytigfakjppicdlaa
open Go.Avc
theorem codecEncodeSpec_lifted (os : Os) (started : os.Started) (H : Type) (enc : TypeId × Value → H) :
    ReturnsInHanded {} Try.checked os 3 .any (Rows.codecEncodeSpecSpec.pre6 enc Try.prog Try.f3 Rows.codecEncodeSpecRow.domain false) (Rows.codecEncodeSpecSpec.post enc Try.prog Try.f3 false true false false) := by
  refine law_lifted (C := Try.checked) (n := 1) own started (by kernel_rfl) Try.func3
    (ChangeSpec.witness6 (enc := enc) (C := Try.checked) false ⟨#[], #[.agg #[.int .i64 0, .int .i64 0, .string ⟨#[]⟩, .slice none 0 0]], []⟩ 8 (by kernel_rfl) (by kernel_rfl) (by kernel_rfl) (by kernel_rfl))
    laidOut ⟨rfl, fun H ds hd => ?_⟩ rfl rfl Try.underlying4 (by kernel_rfl) (Qs := [_]) ⟨op_val, trivial⟩ (gs := [true]) (by kernel_rfl) ?_
  · match ds, hd with
    | [d0], _ => rfl
  · rintro _ ⟨v, rfl, hv⟩
    exact encodeSpec_spec v hv
theorem codecEncodeSpec_proved : Rows.CodecEncodeSpecSaid :=
  OpenClaim.holds_of_wide 3 Try.f3 rfl rfl rfl rfl rfl rfl rfl ⟨rfl, rfl, rfl, rfl, rfl⟩ rfl rfl rfl rfl rfl (by kernel_rfl) Try.func3 (by kernel_rfl)
    (of_decide_eq_true (by kernel_rfl)) (by unfold Func.isWrapper; first | (rw [if_pos (by decide +kernel)]; kernel_rfl) | (rw [if_neg (by decide +kernel)]; exact ⟨rfl, rfl⟩))
    (fun os started H enc _ => codecEncodeSpec_lifted os started H enc)
end Go.Proofs.Ytigfakjppicdlaa
