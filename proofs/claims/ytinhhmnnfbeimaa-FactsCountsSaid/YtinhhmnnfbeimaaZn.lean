/- Facts: the statement 'FactsCounts'. Conditions: none. -/
import Derived.Test.YtinhhmnnfbeimaaWo
import Derived.Test.YtinhhmnnfbeimaaRows
set_option linter.unusedSimpArgs false
set_option linter.unusedVariables false
namespace Go.Proofs.Ytinhhmnnfbeimaa
open Go.Avc
theorem factsCounts_lifted (os : Os) (started : os.Started) (H : Type) (enc : TypeId × Value → H) :
    ReturnsInHanded {} Try.checked os 8 .any (Rows.factsCountsSpec.pre6 enc Try.prog Try.f8 Rows.factsCountsRow.domain false) (Rows.factsCountsSpec.post enc Try.prog Try.f8 false true false false) := by
  refine law_lifted (C := Try.checked) (n := 4) own started (by kernel_rfl) Try.func8
    (ChangeSpec.witness6 (enc := enc) (C := Try.checked) false ⟨#[], #[.slice none 0 0, .agg #[.int .i64 0, .int .i64 0, .int .i64 0], .int .i64 0, .int .i64 0], []⟩ 8 (by kernel_rfl) (by kernel_rfl) (by kernel_rfl) (by kernel_rfl))
    laidOut ⟨rfl, fun H ds hd => ?_⟩ rfl rfl Try.underlying4 (by kernel_rfl) (Qs := [_, _, _, _]) ⟨op_fas, op_ky, op_int, op_int, trivial⟩ (gs := [false, true, false, false]) (by kernel_rfl) ?_
  · match ds, hd with
    | [d0, d1, d2, d3], _ => rfl
  · rintro _ ⟨l, rfl, hl⟩ _ ⟨k, rfl⟩ _ ⟨a, rfl⟩ _ ⟨b, rfl⟩
    exact counts_law l hl k a b
theorem factsCounts_proved : Rows.FactsCountsSaid :=
  OpenClaim.holds_of_wide 8 Try.f8 rfl rfl rfl rfl rfl rfl rfl ⟨rfl, rfl, rfl, rfl, rfl⟩ rfl rfl rfl rfl rfl (by kernel_rfl) Try.func8 (by kernel_rfl)
    (of_decide_eq_true (by kernel_rfl)) (by unfold Func.isWrapper; first | (rw [if_pos (by decide +kernel)]; kernel_rfl) | (rw [if_neg (by decide +kernel)]; exact ⟨rfl, rfl⟩))
    (fun os started H enc _ => factsCounts_lifted os started H enc)
end Go.Proofs.Ytinhhmnnfbeimaa
