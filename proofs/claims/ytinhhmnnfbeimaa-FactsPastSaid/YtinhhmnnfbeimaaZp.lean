/- Facts: the statement 'FactsPast'. Conditions: none. -/
import Derived.Test.YtinhhmnnfbeimaaWo
import Derived.Test.YtinhhmnnfbeimaaWl
import Derived.Test.YtinhhmnnfbeimaaRows
set_option linter.unusedSimpArgs false
set_option linter.unusedVariables false
namespace Go.Proofs.Ytinhhmnnfbeimaa
open Go.Avc
theorem factsPast_lifted (os : Os) (started : os.Started) (H : Type) (enc : TypeId × Value → H) :
    ReturnsInHanded {} Try.checked os 6 .any (Rows.factsPastSpec.pre6 enc Try.prog Try.f6 Rows.factsPastRow.domain false) (Rows.factsPastSpec.post enc Try.prog Try.f6 false true false false) := by
  refine law_lifted (C := Try.checked) (n := 5) own started (by kernel_rfl) Try.func6
    (ChangeSpec.witness6 (enc := enc) (C := Try.checked) false ⟨#[], #[.slice none 0 0, .slice none 0 0, .agg #[.int .i64 0, .int .i64 0, .int .i64 0], .int .i64 0, .int .i64 0], []⟩ 8 (by kernel_rfl) (by kernel_rfl) (by kernel_rfl) (by kernel_rfl))
    laidOut ⟨rfl, fun H ds hd => ?_⟩ rfl rfl Try.underlying4 (by kernel_rfl) (Qs := [_, _, _, _, _]) ⟨op_fas, op_fas, op_ky, op_int, op_int, trivial⟩ (gs := [false, false, true, false, false]) (by kernel_rfl) ?_
  · match ds, hd with
    | [d0, d1, d2, d3, d4], _ => rfl
  · rintro _ ⟨l, rfl, hl⟩ _ ⟨m, rfl, hm⟩ _ ⟨k, rfl⟩ _ ⟨a, rfl⟩ _ ⟨b, rfl⟩
    exact past_law l hl m hm k a b
theorem factsPast_proved : Rows.FactsPastSaid :=
  OpenClaim.holds_of_wide 6 Try.f6 rfl rfl rfl rfl rfl rfl rfl ⟨rfl, rfl, rfl, rfl, rfl⟩ rfl rfl rfl rfl rfl (by kernel_rfl) Try.func6 (by kernel_rfl)
    (of_decide_eq_true (by kernel_rfl)) (by unfold Func.isWrapper; first | (rw [if_pos (by decide +kernel)]; kernel_rfl) | (rw [if_neg (by decide +kernel)]; exact ⟨rfl, rfl⟩))
    (fun os started H enc _ => factsPast_lifted os started H enc)
end Go.Proofs.Ytinhhmnnfbeimaa
