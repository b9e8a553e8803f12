/- Journals: the statement 'JournalSyncSpec' in its second form. Conditions: none. -/
import Derived.Test.YtcgpikmaapallaaWe
import Derived.Test.YtcgpikmaapallaaWr
set_option linter.unusedSimpArgs false
set_option linter.unusedVariables false
namespace Go.Proofs.Ytcgpikmaapallaa
open Go.Avc
theorem journalSyncSpec_lifted (os : Os) (started : os.Started) (H : Type) (enc : TypeId × Value → H) (F : Stop.Interp) :
    ReturnsInHanded {} Try.checked os 5 .any ((Rows.OpenSpec.upto Rows.journalSyncSpecSpec).pre6 enc Try.prog Try.f5 Rows.journalSyncSpecUptoRow.domain false) (((Rows.OpenSpec.upto Rows.journalSyncSpecSpec).at F).post enc Try.prog Try.f5 false true false false) := by
  refine law_lifted (C := Try.checked) (n := 2) own started (by kernel_rfl) Try.func5
    (OpenSpec.witness (enc := enc) (C := Try.checked) (s := Rows.OpenSpec.upto Rows.journalSyncSpecSpec) (k := Rows.uptoSmall) rfl false ⟨#[], #[.agg #[.slice none 0 0, .int .i64 0, .int .i64 0], .agg #[.slice none 0 0, .slice none 0 0, .int .i64 0, .bool false]], []⟩ 8 (by kernel_rfl) (by kernel_rfl) (by kernel_rfl)
      (x := ([.agg [.nil, .lit (.int .i64 0), .lit (.int .i64 0)], .agg [.nil, .nil, .lit (.int .i64 0), .lit (.bool false)]], [], [])) (by kernel_rfl) rfl (by kernel_rfl))
    laidOut ⟨rfl, fun H ds hd => ?_⟩ rfl rfl Try.underlying4 (by kernel_rfl) (Qs := [_, _]) ⟨op_jour, op_disk, trivial⟩ (gs := [true, true]) (by kernel_rfl) ?_
  · match ds, hd with
    | [d0, d1], _ => rfl
  · rintro _ ⟨j, rfl⟩ _ ⟨d, rfl⟩ hz
    simp only [argPV, List.headD_cons, pbulkL, pbulk, bulk_sectors, bulk_bytes] at hz
    exact syncLaw_spec j d (by omega)
theorem journalSyncSpec_proved : Rows.JournalSyncSpecUptoSaid :=
  OpenClaim.holds_of_cond 5 Try.f5 rfl rfl rfl rfl rfl rfl rfl ⟨rfl, rfl, rfl, rfl, rfl⟩ rfl rfl rfl rfl rfl (by kernel_rfl) Try.func5 (by kernel_rfl)
    (of_decide_eq_true (by kernel_rfl)) (by unfold Func.isWrapper; first | (rw [if_pos (by decide +kernel)]; kernel_rfl) | (rw [if_neg (by decide +kernel)]; exact ⟨rfl, rfl⟩))
    (fun os started H enc _ F => journalSyncSpec_lifted os started H enc F)
end Go.Proofs.Ytcgpikmaapallaa
