/- Disks: the statement about Write. Conditions: none. -/
import Derived.Test.YtmkkfgifeekgeaaVkN
import Derived.Test.YtmkkfgifeekgeaaVkM
namespace Go.Proofs.Ytmkkfgifeekgeaa
open Go.Avc
theorem diskWriteSpec_lifted (os : Os) (started : os.Started) (H : Type) (enc : TypeId × Value → H) :
    ReturnsInHanded {} Try.checked os 4 .any (Rows.diskWriteSpecSpec.pre6 enc Try.prog Try.f4 Rows.diskWriteSpecRow.domain false) (Rows.diskWriteSpecSpec.post enc Try.prog Try.f4 false true false false) := by
  refine law_lifted (C := Try.checked) (n := 3) own started (by kernel_rfl) Try.func4
    (ChangeSpec.witness6 (enc := enc) (C := Try.checked) false ⟨#[], #[.agg #[.slice none 0 0, .slice none 0 0, .int .i64 0, .bool false], .int .i64 0, .slice none 0 0], []⟩ 8 (by kernel_rfl) (by kernel_rfl) (by kernel_rfl) (by kernel_rfl))
    laidOut ⟨rfl, fun H ds hd => ?_⟩ rfl rfl Try.underlying4 (by kernel_rfl) (Qs := [_, _, _]) ⟨op_disk, op_int, op_bytes, trivial⟩ (gs := [true, false, false]) (by kernel_rfl) ?_
  · match ds, hd with
    | [d1, d2, d3], _ => rfl
  · rintro _ ⟨d, rfl, hd⟩ _ ⟨a, rfl⟩ _ ⟨b, rfl, hb⟩
    exact writeSpec_spec d a b hd
theorem diskWriteSpec_proved : Rows.DiskWriteSpecSaid :=
  OpenClaim.holds_of_wide 4 Try.f4 rfl rfl rfl rfl rfl rfl rfl ⟨rfl, rfl, rfl, rfl, rfl⟩ rfl rfl rfl rfl rfl (by kernel_rfl) Try.func4 (by kernel_rfl)
    (of_decide_eq_true (by kernel_rfl)) (by unfold Func.isWrapper; first | (rw [if_pos (by decide +kernel)]; kernel_rfl) | (rw [if_neg (by decide +kernel)]; exact ⟨rfl, rfl⟩))
    (fun os started H enc _ => diskWriteSpec_lifted os started H enc)
end Go.Proofs.Ytmkkfgifeekgeaa
