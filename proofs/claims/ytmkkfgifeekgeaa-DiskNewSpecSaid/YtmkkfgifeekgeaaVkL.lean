/- Disks: the statement about New. Conditions: none. -/
import Derived.Test.YtmkkfgifeekgeaaVkN
import Derived.Test.YtmkkfgifeekgeaaVkK
namespace Go.Proofs.Ytmkkfgifeekgeaa
open Go.Avc
theorem diskNewSpec_lifted (os : Os) (started : os.Started) (H : Type) (enc : TypeId × Value → H) :
    ReturnsInHanded {} Try.checked os 3 .any (Rows.diskNewSpecSpec.pre6 enc Try.prog Try.f3 Rows.diskNewSpecRow.domain false) (Rows.diskNewSpecSpec.post enc Try.prog Try.f3 false true false false) := by
  refine law_lifted (C := Try.checked) (n := 2) own started (by kernel_rfl) Try.func3
    (ChangeSpec.witness6 (enc := enc) (C := Try.checked) false ⟨#[], #[.int .i64 0, .agg #[.slice none 0 0, .slice none 0 0, .int .i64 0, .bool false]], []⟩ 8 (by kernel_rfl) (by kernel_rfl) (by kernel_rfl) (by kernel_rfl))
    laidOut ⟨rfl, fun H ds hd => ?_⟩ rfl rfl Try.underlying4 (by kernel_rfl) (Qs := [_, _]) ⟨op_int, op_disk, trivial⟩ (gs := [false, true]) (by kernel_rfl) ?_
  · match ds, hd with
    | [d1, d2], _ => rfl
  · rintro _ ⟨n, rfl⟩ _ ⟨d, rfl, hd⟩
    exact newSpec_spec n d hd
theorem diskNewSpec_proved : Rows.DiskNewSpecSaid :=
  OpenClaim.holds_of_wide 3 Try.f3 rfl rfl rfl rfl rfl rfl rfl ⟨rfl, rfl, rfl, rfl, rfl⟩ rfl rfl rfl rfl rfl (by kernel_rfl) Try.func3 (by kernel_rfl)
    (of_decide_eq_true (by kernel_rfl)) (by unfold Func.isWrapper; first | (rw [if_pos (by decide +kernel)]; kernel_rfl) | (rw [if_neg (by decide +kernel)]; exact ⟨rfl, rfl⟩))
    (fun os started H enc _ => diskNewSpec_lifted os started H enc)
end Go.Proofs.Ytmkkfgifeekgeaa
