/- Journals: the statement 'JournalDamage' in its first form. Conditions: none. -/
import Derived.Test.YtcgpikmaapallaaWe
import Derived.Test.YtcgpikmaapallaaWm
import Derived.Test.YtcgpikmaapallaaRows
set_option linter.unusedSimpArgs false
set_option linter.unusedVariables false
set_option maxRecDepth 20000
set_option maxHeartbeats 4000000
namespace Go.Proofs.Ytcgpikmaapallaa
open Go.Avc
theorem journalDamage_lifted (os : Os) (started : os.Started) (H : Type) (enc : TypeId × Value → H) :
   ReturnsInHanded {} Try.checked os 9 .any (Rows.journalDamageSpec.pre6 enc Try.prog Try.f9 Rows.journalDamageRow.domain false) (Rows.journalDamageSpec.post enc Try.prog Try.f9 false true false false) := by
 refine law_lifted (C := Try.checked) (n := 4) own started (by kernel_rfl) Try.func9
   (ChangeSpec.witness6 (enc := enc) (C := Try.checked) false ⟨#[], #[.slice none 0 0, .int .i64 0, .int .i64 0, .int .u8 0], []⟩ 8 (by kernel_rfl) (by kernel_rfl) (by kernel_rfl) (by kernel_rfl))
   laidOut ⟨rfl, fun H ds hd => ?_⟩ rfl rfl Try.underlying4 (by kernel_rfl) (Qs := [_, _, _, _]) ⟨op_sectors, op_int, op_int, op_byte, trivial⟩ (gs := [false, false, false, false]) (by kernel_rfl) ?_
 · match ds, hd with
   | [d0, d1, d2, d3], _ => rfl
 · rintro _ ⟨a, rfl, ha⟩ _ ⟨n, rfl, hn⟩ _ ⟨m, rfl, hm⟩ _ ⟨y, rfl⟩
   exact damage_wide a n m y ha hn hm
theorem journalDamage_proved : Rows.JournalDamageSaid :=
 OpenClaim.holds_of_wide 9 Try.f9 rfl rfl rfl rfl rfl rfl rfl ⟨rfl, rfl, rfl, rfl, rfl⟩ rfl rfl rfl rfl rfl (by kernel_rfl) Try.func9 (by kernel_rfl)
   (of_decide_eq_true (by kernel_rfl)) (by unfold Func.isWrapper; first | (rw [if_pos (by decide +kernel)]; kernel_rfl) | (rw [if_neg (by decide +kernel)]; exact ⟨rfl, rfl⟩))
   (fun os started H enc _ => journalDamage_lifted os started H enc)
end Go.Proofs.Ytcgpikmaapallaa
