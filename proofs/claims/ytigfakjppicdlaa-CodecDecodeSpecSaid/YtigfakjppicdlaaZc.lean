/- Codec: the statement 'CodecDecodeSpec'. Conditions: none. -/
import Derived.Test.YtigfakjppicdlaaWe
import Derived.Test.YtigfakjppicdlaaWn
import Derived.Test.YtigfakjppicdlaaRows
set_option linter.unusedSimpArgs false
set_option linter.unusedVariables false
namespace Go.Proofs.Ytigfakjppicdlaa
open Go.Avc
theorem codecDecodeSpec_lifted (os : Os) (started : os.Started) (H : Type) (enc : TypeId × Value → H) :
    ReturnsInHanded {} Try.checked os 4 .any (Rows.codecDecodeSpecSpec.pre6 enc Try.prog Try.f4 Rows.codecDecodeSpecRow.domain false) (Rows.codecDecodeSpecSpec.post enc Try.prog Try.f4 false true false false) := by
  refine law_lifted (C := Try.checked) (n := 1) own started (by kernel_rfl) Try.func4
    (ChangeSpec.witness6 (enc := enc) (C := Try.checked) false ⟨#[], #[.slice none 0 0], []⟩ 8 (by kernel_rfl) (by kernel_rfl) (by kernel_rfl) (by kernel_rfl))
    laidOut ⟨rfl, fun H ds hd => ?_⟩ rfl rfl Try.underlying4 (by kernel_rfl) (Qs := [_]) ⟨op_bytes, trivial⟩ (gs := [false]) (by kernel_rfl) ?_
  · match ds, hd with
    | [d0], _ => rfl
  · rintro _ ⟨b, rfl, hb⟩
    exact decodeSpec_spec b (Nat.le_trans hb (by decide))
theorem codecDecodeSpec_proved : Rows.CodecDecodeSpecSaid :=
  OpenClaim.holds_of_wide 4 Try.f4 rfl rfl rfl rfl rfl rfl rfl ⟨rfl, rfl, rfl, rfl, rfl⟩ rfl rfl rfl rfl rfl (by kernel_rfl) Try.func4 (by kernel_rfl)
    (of_decide_eq_true (by kernel_rfl)) (by unfold Func.isWrapper; first | (rw [if_pos (by decide +kernel)]; kernel_rfl) | (rw [if_neg (by decide +kernel)]; exact ⟨rfl, rfl⟩))
    (fun os started H enc _ => codecDecodeSpec_lifted os started H enc)
end Go.Proofs.Ytigfakjppicdlaa
