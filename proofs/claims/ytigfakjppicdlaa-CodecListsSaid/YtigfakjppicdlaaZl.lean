/- Codec: the statement 'CodecLists'. Conditions: none. -/
import Derived.Test.YtigfakjppicdlaaWe
import Derived.Test.YtigfakjppicdlaaWk
import Derived.Test.YtigfakjppicdlaaRows
set_option linter.unusedSimpArgs false
set_option linter.unusedVariables false
namespace Go.Proofs.Ytigfakjppicdlaa
open Go.Avc
theorem codecLists_lifted (os : Os) (started : os.Started) (H : Type) (enc : TypeId × Value → H) :
    ReturnsInHanded {} Try.checked os 8 .any (Rows.codecListsSpec.pre6 enc Try.prog Try.f8 Rows.codecListsRow.domain false) (Rows.codecListsSpec.post enc Try.prog Try.f8 false true false false) := by
  refine law_lifted (C := Try.checked) (n := 1) own started (by kernel_rfl) Try.func8
    (ChangeSpec.witness6 (enc := enc) (C := Try.checked) false ⟨#[], #[.slice none 0 0], []⟩ 8 (by kernel_rfl) (by kernel_rfl) (by kernel_rfl) (by kernel_rfl))
    laidOut ⟨rfl, fun H ds hd => ?_⟩ rfl rfl Try.underlying4 (by kernel_rfl) (Qs := [_]) ⟨op_vals, trivial⟩ (gs := [false]) (by kernel_rfl) ?_
  · match ds, hd with
    | [d0], _ => rfl
  · rintro _ ⟨l, rfl, hl⟩
    exact lists_spec l hl
theorem codecLists_proved : Rows.CodecListsSaid :=
  OpenClaim.holds_of_wide 8 Try.f8 rfl rfl rfl rfl rfl rfl rfl ⟨rfl, rfl, rfl, rfl, rfl⟩ rfl rfl rfl rfl rfl (by kernel_rfl) Try.func8 (by kernel_rfl)
    (of_decide_eq_true (by kernel_rfl)) (by unfold Func.isWrapper; first | (rw [if_pos (by decide +kernel)]; kernel_rfl) | (rw [if_neg (by decide +kernel)]; exact ⟨rfl, rfl⟩))
    (fun os started H enc _ => codecLists_lifted os started H enc)
end Go.Proofs.Ytigfakjppicdlaa
