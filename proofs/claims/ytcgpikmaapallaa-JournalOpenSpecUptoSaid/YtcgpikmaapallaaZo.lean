/- Journals: the statement 'JournalOpenSpec' in its second form. Conditions: none. -/
import Derived.Test.YtcgpikmaapallaaWe
import Derived.Test.YtcgpikmaapallaaWn
set_option linter.unusedSimpArgs false
set_option linter.unusedVariables false
namespace Go.Proofs.Ytcgpikmaapallaa
open Go.Avc
theorem journalOpenSpec_lifted (os : Os) (started : os.Started) (H : Type) (enc : TypeId × Value → H) (F : Stop.Interp) :
    ReturnsInHanded {} Try.checked os 3 .any ((Rows.OpenSpec.upto Rows.journalOpenSpecSpec).pre6 enc Try.prog Try.f3 Rows.journalOpenSpecUptoRow.domain false) (((Rows.OpenSpec.upto Rows.journalOpenSpecSpec).at F).post enc Try.prog Try.f3 false true false false) := by
  refine law_lifted (C := Try.checked) (n := 1) own started (by kernel_rfl) Try.func3
    (OpenSpec.witness (enc := enc) (C := Try.checked) (s := Rows.OpenSpec.upto Rows.journalOpenSpecSpec) (k := Rows.uptoSmall) rfl false ⟨#[], #[.agg #[.slice none 0 0, .slice none 0 0, .int .i64 0, .bool false]], []⟩ 8 (by kernel_rfl) (by kernel_rfl) (by kernel_rfl)
      (x := ([.agg [.nil, .nil, .lit (.int .i64 0), .lit (.bool false)]], [], [])) (by kernel_rfl) rfl (by kernel_rfl))
    laidOut ⟨rfl, fun H ds hd => ?_⟩ rfl rfl Try.underlying4 (by kernel_rfl) (Qs := [_]) ⟨op_disk, trivial⟩ (gs := [true]) (by kernel_rfl) ?_
  · match ds, hd with
    | [d0], _ => rfl
  · rintro _ ⟨d, rfl⟩ hz
    simp only [argPV, List.headD_cons, pbulkL, pbulk, bulk_sectors, bulk_bytes] at hz
    exact openLaw_spec d
theorem journalOpenSpec_proved : Rows.JournalOpenSpecUptoSaid :=
  OpenClaim.holds_of_cond 3 Try.f3 rfl rfl rfl rfl rfl rfl rfl ⟨rfl, rfl, rfl, rfl, rfl⟩ rfl rfl rfl rfl rfl (by kernel_rfl) Try.func3 (by kernel_rfl)
    (of_decide_eq_true (by kernel_rfl)) (by unfold Func.isWrapper; first | (rw [if_pos (by decide +kernel)]; kernel_rfl) | (rw [if_neg (by decide +kernel)]; exact ⟨rfl, rfl⟩))
    (fun os started H enc _ F => journalOpenSpec_lifted os started H enc F)
end Go.Proofs.Ytcgpikmaapallaa
