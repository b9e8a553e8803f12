/- Facts: the statement 'FactsCheckSpec'. Conditions: none. -/
import Derived.Test.YtinhhmnnfbeimaaWo
import Derived.Test.YtinhhmnnfbeimaaWl
import Derived.Test.YtinhhmnnfbeimaaRows
set_option linter.unusedSimpArgs false
set_option linter.unusedVariables false
namespace Go.Proofs.Ytinhhmnnfbeimaa
open Go.Avc
theorem factsCheckSpec_lifted (os : Os) (started : os.Started) (H : Type) (enc : TypeId × Value → H) :
    ReturnsInHanded {} Try.checked os 3 .any (Rows.factsCheckSpecSpec.pre6 enc Try.prog Try.f3 Rows.factsCheckSpecRow.domain false) (Rows.factsCheckSpecSpec.post enc Try.prog Try.f3 false true false false) := by
  refine law_lifted (C := Try.checked) (n := 2) own started (by kernel_rfl) Try.func3
    (ChangeSpec.witness6 (enc := enc) (C := Try.checked) false ⟨#[], #[.slice none 0 0, .agg #[.int .i64 0, .int .i64 0, .int .i64 0, .int .i64 0, .int .i64 0, .int .i64 0, .int .i64 0, .int .i64 0]], []⟩ 8 (by kernel_rfl) (by kernel_rfl) (by kernel_rfl) (by kernel_rfl))
    laidOut ⟨rfl, fun H ds hd => ?_⟩ rfl rfl Try.underlying4 (by kernel_rfl) (Qs := [_, _]) ⟨op_fas, op_fa, trivial⟩ (gs := [false, true]) (by kernel_rfl) ?_
  · match ds, hd with
    | [d0, d1], _ => rfl
  · rintro _ ⟨l, rfl, hl⟩ _ ⟨f, rfl⟩
    exact check_law l hl f
theorem factsCheckSpec_proved : Rows.FactsCheckSpecSaid :=
  OpenClaim.holds_of_wide 3 Try.f3 rfl rfl rfl rfl rfl rfl rfl ⟨rfl, rfl, rfl, rfl, rfl⟩ rfl rfl rfl rfl rfl (by kernel_rfl) Try.func3 (by kernel_rfl)
    (of_decide_eq_true (by kernel_rfl)) (by unfold Func.isWrapper; first | (rw [if_pos (by decide +kernel)]; kernel_rfl) | (rw [if_neg (by decide +kernel)]; exact ⟨rfl, rfl⟩))
    (fun os started H enc _ => factsCheckSpec_lifted os started H enc)
end Go.Proofs.Ytinhhmnnfbeimaa
