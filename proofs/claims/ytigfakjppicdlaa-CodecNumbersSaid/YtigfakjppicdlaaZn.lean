/- Codec: the statement 'CodecNumbers'. Conditions: none. -/
import Derived.Test.YtigfakjppicdlaaWe
import Derived.Test.YtigfakjppicdlaaWj
import Derived.Test.YtigfakjppicdlaaRows
set_option linter.unusedSimpArgs false
set_option linter.unusedVariables false
namespace Go.Proofs.Ytigfakjppicdlaa
open Go.Avc
theorem codecNumbers_lifted (os : Os) (started : os.Started) (H : Type) (enc : TypeId × Value → H) :
    ReturnsInHanded {} Try.checked os 9 .any (Rows.codecNumbersSpec.pre6 enc Try.prog Try.f9 Rows.codecNumbersRow.domain false) (Rows.codecNumbersSpec.post enc Try.prog Try.f9 false true false false) := by
  refine law_lifted (C := Try.checked) (n := 2) own started (by kernel_rfl) Try.func9
    (ChangeSpec.witness6 (enc := enc) (C := Try.checked) false ⟨#[], #[.int .i64 0, .int .i64 0], []⟩ 8 (by kernel_rfl) (by kernel_rfl) (by kernel_rfl) (by kernel_rfl))
    laidOut ⟨rfl, fun H ds hd => ?_⟩ rfl rfl Try.underlying4 (by kernel_rfl) (Qs := [_, _]) ⟨op_int, op_int, trivial⟩ (gs := [false, false]) (by kernel_rfl) ?_
  · match ds, hd with
    | [d0, d1], _ => rfl
  · rintro _ ⟨n, rfl, hn⟩ _ ⟨m, rfl, hm⟩
    exact numbers_spec n m hn hm
theorem codecNumbers_proved : Rows.CodecNumbersSaid :=
  OpenClaim.holds_of_wide 9 Try.f9 rfl rfl rfl rfl rfl rfl rfl ⟨rfl, rfl, rfl, rfl, rfl⟩ rfl rfl rfl rfl rfl (by kernel_rfl) Try.func9 (by kernel_rfl)
    (of_decide_eq_true (by kernel_rfl)) (by unfold Func.isWrapper; first | (rw [if_pos (by decide +kernel)]; kernel_rfl) | (rw [if_neg (by decide +kernel)]; exact ⟨rfl, rfl⟩))
    (fun os started H enc _ => codecNumbers_lifted os started H enc)
end Go.Proofs.Ytigfakjppicdlaa
