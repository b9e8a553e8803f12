/- Records: the statement 'RecordsReads'. Conditions: none. -/
import Derived.Test.YtmaggokcjcdllaaWn
import Derived.Test.YtmaggokcjcdllaaWr
import Derived.Test.YtmaggokcjcdllaaRows
set_option linter.unusedSimpArgs false
set_option linter.unusedVariables false
namespace Go.Proofs.Ytmaggokcjcdllaa
open Go.Avc
theorem recordsReads_lifted (os : Os) (started : os.Started) (H : Type) (enc : TypeId × Value → H) :
    ReturnsInHanded {} Try.checked os 9 .any (Rows.recordsReadsSpec.pre6 enc Try.prog Try.f9 Rows.recordsReadsRow.domain false) (Rows.recordsReadsSpec.post enc Try.prog Try.f9 false true false false) := by
  refine law_lifted (C := Try.checked) (n := 7) own started (by kernel_rfl) Try.func9
    (ChangeSpec.witness6 (enc := enc) (C := Try.checked) false ⟨#[], #[.agg #[.slice none 0 0, .slice none 0 0, .slice none 0 0, .slice none 0 0, .slice none 0 0, .slice none 0 0, .slice none 0 0, .slice none 0 0], .int .i64 0, .int .i64 0, .int .i64 0, .int .i64 0, .int .i64 0, .int .i64 0], []⟩ 8 (by kernel_rfl) (by kernel_rfl) (by kernel_rfl) (by kernel_rfl))
    laidOut ⟨rfl, fun H ds hd => ?_⟩ rfl rfl Try.underlying4 (by kernel_rfl) (Qs := [_, _, _, _, _, _, _]) ⟨op_wd, op_int, op_int, op_int, op_int, op_int, op_int, trivial⟩ (gs := [true, false, false, false, false, false, false]) (by kernel_rfl) ?_
  · match ds, hd with
    | [d0, d1, d2, d3, d4, d5, d6], _ => rfl
  · rintro _ ⟨w, rfl, hs, ho⟩ _ ⟨a, rfl⟩ _ ⟨b, rfl⟩ _ ⟨c, rfl⟩ _ ⟨d, rfl⟩ _ ⟨e, rfl⟩ _ ⟨f, rfl⟩
    exact reads_law w hs a b c d e f
theorem recordsReads_proved : Rows.RecordsReadsSaid :=
  OpenClaim.holds_of_wide 9 Try.f9 rfl rfl rfl rfl rfl rfl rfl ⟨rfl, rfl, rfl, rfl, rfl⟩ rfl rfl rfl rfl rfl (by kernel_rfl) Try.func9 (by kernel_rfl)
    (of_decide_eq_true (by kernel_rfl)) (by unfold Func.isWrapper; first | (rw [if_pos (by decide +kernel)]; kernel_rfl) | (rw [if_neg (by decide +kernel)]; exact ⟨rfl, rfl⟩))
    (fun os started H enc _ => recordsReads_lifted os started H enc)
end Go.Proofs.Ytmaggokcjcdllaa
