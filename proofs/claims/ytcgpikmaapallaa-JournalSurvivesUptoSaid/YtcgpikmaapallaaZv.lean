/- Journals: the statement 'JournalSurvives' in its second form. Conditions: none. -/
import Derived.Test.YtcgpikmaapallaaWe
import Derived.Test.YtcgpikmaapallaaWl
namespace Go.Proofs.Ytcgpikmaapallaa
open Go.Avc
theorem journalSurvives_lifted (os : Os) (started : os.Started) (H : Type) (enc : TypeId × Value → H) (F : Stop.Interp) :
    ReturnsInHanded {} Try.checked os 8 .any ((Rows.OpenSpec.upto Rows.journalSurvivesSpec).pre6 enc Try.prog Try.f8 Rows.journalSurvivesUptoRow.domain false) (((Rows.OpenSpec.upto Rows.journalSurvivesSpec).at F).post enc Try.prog Try.f8 false true false false) := by
  refine law_lifted (C := Try.checked) (n := 2) own started (by kernel_rfl) Try.func8
    (OpenSpec.witness (enc := enc) (C := Try.checked) (s := Rows.OpenSpec.upto Rows.journalSurvivesSpec) (k := Rows.uptoSmall) rfl false ⟨#[], #[.int .u8 0, .slice none 0 0], []⟩ 8 (by kernel_rfl) (by kernel_rfl) (by kernel_rfl)
      (x := ([.lit (.int .u8 0), .nil], [], [])) (by kernel_rfl) rfl (by kernel_rfl))
    laidOut ⟨rfl, fun H ds hd => ?_⟩ rfl rfl Try.underlying4 (by kernel_rfl) (Qs := [_, _]) ⟨op_byte, op_script, trivial⟩ (gs := [false, false]) (by kernel_rfl) ?_
  · match ds, hd with
    | [d0, d1], _ => rfl
  · rintro _ ⟨y, rfl⟩ _ ⟨sc, rfl⟩ hz
    simp only [argPV, List.headD_cons, pbulkL, pbulk, bulk_sectors, bulk_bytes] at hz
    exact survives_spec y sc (fun c hc => by have := bulk_script hc; omega)
theorem journalSurvives_proved : Rows.JournalSurvivesUptoSaid :=
  OpenClaim.holds_of_cond 8 Try.f8 rfl rfl rfl rfl rfl rfl rfl ⟨rfl, rfl, rfl, rfl, rfl⟩ rfl rfl rfl rfl rfl (by kernel_rfl) Try.func8 (by kernel_rfl)
    (of_decide_eq_true (by kernel_rfl)) (by unfold Func.isWrapper; first | (rw [if_pos (by decide +kernel)]; kernel_rfl) | (rw [if_neg (by decide +kernel)]; exact ⟨rfl, rfl⟩))
    (fun os started H enc _ F => journalSurvives_lifted os started H enc F)
end Go.Proofs.Ytcgpikmaapallaa
