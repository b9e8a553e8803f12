/- Disks: the statement about reading. Conditions: none. -/
import Derived.Test.YtmkkfgifeekgeaaVkN
import Derived.Test.YtmkkfgifeekgeaaVkO
namespace Go.Proofs.Ytmkkfgifeekgeaa
open Go.Avc
theorem diskReads_lifted (os : Os) (started : os.Started) (H : Type) (enc : TypeId × Value → H) :
    ReturnsInHanded {} Try.checked os 7 .any (Rows.diskReadsSpec.pre6 enc Try.prog Try.f7 Rows.diskReadsRow.domain false) (Rows.diskReadsSpec.post enc Try.prog Try.f7 false true false false) := by
  refine law_lifted (C := Try.checked) (n := 5) own started (by kernel_rfl) Try.func7
    (ChangeSpec.witness6 (enc := enc) (C := Try.checked) false ⟨#[], #[.agg #[.slice none 0 0, .slice none 0 0, .int .i64 0, .bool false], .int .i64 0, .int .i64 0, .slice none 0 0, .slice none 0 0], []⟩ 8 (by kernel_rfl) (by kernel_rfl) (by kernel_rfl) (by kernel_rfl))
    laidOut ⟨rfl, fun H ds hd => ?_⟩ rfl rfl Try.underlying4 (by kernel_rfl) (Qs := [_, _, _, _, _]) ⟨op_disk, op_int, op_int, op_bytes, op_bytes, trivial⟩ (gs := [true, false, false, false, false]) (by kernel_rfl) ?_
  · match ds, hd with
    | [d1, d2, d3, d4, d5], _ => rfl
  · rintro _ ⟨d, rfl, hd⟩ _ ⟨a, rfl⟩ _ ⟨o, rfl⟩ _ ⟨b, rfl, hb⟩ _ ⟨c, rfl, hc⟩
    exact reads_spec d a o b c hd
theorem diskReads_proved : Rows.DiskReadsSaid :=
  OpenClaim.holds_of_wide 7 Try.f7 rfl rfl rfl rfl rfl rfl rfl ⟨rfl, rfl, rfl, rfl, rfl⟩ rfl rfl rfl rfl rfl (by kernel_rfl) Try.func7 (by kernel_rfl)
    (of_decide_eq_true (by kernel_rfl)) (by unfold Func.isWrapper; first | (rw [if_pos (by decide +kernel)]; kernel_rfl) | (rw [if_neg (by decide +kernel)]; exact ⟨rfl, rfl⟩))
    (fun os started H enc _ => diskReads_lifted os started H enc)
end Go.Proofs.Ytmkkfgifeekgeaa
