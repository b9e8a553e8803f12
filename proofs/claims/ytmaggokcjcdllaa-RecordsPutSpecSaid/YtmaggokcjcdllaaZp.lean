/- Records: the statement 'RecordsPutSpec'. Conditions: none. -/
import Derived.Test.YtmaggokcjcdllaaWn
import Derived.Test.YtmaggokcjcdllaaWl
import Derived.Test.YtmaggokcjcdllaaRows
set_option linter.unusedSimpArgs false
set_option linter.unusedVariables false
namespace Go.Proofs.Ytmaggokcjcdllaa
open Go.Avc
theorem recordsPutSpec_lifted (os : Os) (started : os.Started) (H : Type) (enc : TypeId × Value → H) :
    ReturnsInHanded {} Try.checked os 5 .any (Rows.recordsPutSpecSpec.pre6 enc Try.prog Try.f5 Rows.recordsPutSpecRow.domain false) (Rows.recordsPutSpecSpec.post enc Try.prog Try.f5 false true false false) := by
  refine law_lifted (C := Try.checked) (n := 4) own started (by kernel_rfl) Try.func5
    (ChangeSpec.witness6 (enc := enc) (C := Try.checked) false ⟨#[], #[.agg #[.slice none 0 0, .slice none 0 0, .slice none 0 0, .slice none 0 0, .slice none 0 0, .slice none 0 0, .slice none 0 0, .slice none 0 0], .agg #[.int .i64 0, .int .i64 0, .int .i64 0, .slice none 0 0], .agg #[.int .i64 0, .int .i64 0], .int .i64 0], []⟩ 8 (by kernel_rfl) (by kernel_rfl) (by kernel_rfl) (by kernel_rfl))
    laidOut ⟨rfl, fun H ds hd => ?_⟩ rfl rfl Try.underlying4 (by kernel_rfl) (Qs := [_, _, _, _]) ⟨op_wd, op_in, op_sp, op_int, trivial⟩ (gs := [true, true, true, false]) (by kernel_rfl) ?_
  · match ds, hd with
    | [d0, d1, d2, d3], _ => rfl
  · rintro _ ⟨w, rfl, hs, ho⟩ _ ⟨x, rfl⟩ _ ⟨v, rfl⟩ _ ⟨a, rfl⟩
    exact put_law w hs ho x v a
theorem recordsPutSpec_proved : Rows.RecordsPutSpecSaid :=
  OpenClaim.holds_of_wide 5 Try.f5 rfl rfl rfl rfl rfl rfl rfl ⟨rfl, rfl, rfl, rfl, rfl⟩ rfl rfl rfl rfl rfl (by kernel_rfl) Try.func5 (by kernel_rfl)
    (of_decide_eq_true (by kernel_rfl)) (by unfold Func.isWrapper; first | (rw [if_pos (by decide +kernel)]; kernel_rfl) | (rw [if_neg (by decide +kernel)]; exact ⟨rfl, rfl⟩))
    (fun os started H enc _ => recordsPutSpec_lifted os started H enc)
end Go.Proofs.Ytmaggokcjcdllaa
