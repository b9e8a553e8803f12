/- Schedules: the tied card 'ScheduleNone'. Conditions: none. -/
import Derived.Test.YthldjgjpokjliaaDoorWv
import Derived.Test.YthldjgjpokjliaaDoorWr
set_option linter.unusedSimpArgs false
set_option linter.unusedVariables false
set_option maxRecDepth 20000
set_option maxHeartbeats 4000000
namespace Go.Proofs.YthldjgjpokjliaaDoor
open Go.Avc
theorem scheduleNone_lifted (os : Os) (started : os.Started) (H : Type) (enc : TypeId × Value → H) :
   ReturnsInHanded {} Tryd.checked os 7 .any (fun w args => (Rows.scheduleNoneSpec.pre enc Tryd.prog Tryd.f7 [] false w args ∧ laidMetH Tryd.prog [("math/bits.deBruijn32tab", Rows.laid_math_bits_deBruijn32tab), ("math/bits.deBruijn64tab", Rows.laid_math_bits_deBruijn64tab)] w) ∧ sizedMet enc Tryd.prog Tryd.f7 (OpenSpec.ofChange Rows.scheduleNoneSpec) false w args) (Rows.scheduleNoneSpec.post enc Tryd.prog Tryd.f7 false true false false) := by
 refine law_laid (C := Tryd.checked) (n := 3) own started (by kernel_rfl) Tryd.func7
   (ChangeSpec.witness_shaped (enc := enc) (C := Tryd.checked) (os := os) (X := fun w _ => laidMetH Tryd.prog [("math/bits.deBruijn32tab", Rows.laid_math_bits_deBruijn32tab), ("math/bits.deBruijn64tab", Rows.laid_math_bits_deBruijn64tab)] w) false (World.doorLaid Tryd.prog 400 os) #[.slice none 0 0, .slice none 0 0, .slice none 0 0] 8 rfl (World.shaped_of_RefB (by kernel_rfl) (by kernel_rfl)) (by kernel_rfl) (by kernel_rfl) (by kernel_rfl) (door_met os _))
   laidOut ⟨rfl, fun H ds hd => ?_⟩ rfl rfl Tryd.underlying4 (by kernel_rfl) (Qs := [_, _, _]) ⟨op_sks, op_nds, op_ints, trivial⟩ (gs := [false, false, false]) (by kernel_rfl) ?_ kGlob
 · match ds, hd with
   | [d0, d1, d2], _ => rfl
 · rintro _ ⟨s, rfl, hs⟩ _ ⟨d, rfl, hd, gd, kd⟩ _ ⟨r, rfl, hr⟩
   exact none_law s d r ⟨hs, hd, gd, kd⟩ hr
theorem scheduleNone_proved : Rows.ScheduleNoneSaid :=
 OpenClaim.holds_of_wide 7 Tryd.f7 rfl rfl rfl rfl rfl rfl rfl ⟨rfl, rfl, rfl, rfl, rfl⟩ rfl rfl rfl rfl rfl (by kernel_rfl) Tryd.func7 (by kernel_rfl)
   (of_decide_eq_true (by kernel_rfl)) (by unfold Func.isWrapper; first | (rw [if_pos (by decide +kernel)]; kernel_rfl) | (rw [if_neg (by decide +kernel)]; exact ⟨rfl, rfl⟩))
   (fun os started H enc _ => scheduleNone_lifted os started H enc)
theorem scheduleNone_card : Rows.ScheduleNoneCardSaid :=
 Claim7.holds_tied_plain_at .later [] [.data, .data] true Rows.scheduleNoneCard.stood.harness false
   scheduleNone_proved (fun _ h => by cases h) (by kernel_rfl) (fun _ h => by cases h) scheduleNone_row_tie rfl ⟨rfl, rfl⟩ (by kernel_rfl) rfl
   (fun f fn hf hfn => by
     obtain rfl : f = 7 := Option.some.inj ((show Tryd.prog.funcNamed "testamur/testamurlaw32.ScheduleNone" = some 7 by kernel_rfl).symm.trans hf) |>.symm
     obtain rfl : fn = Tryd.f7 := (Option.some.inj (Tryd.func7.symm.trans hfn)).symm
     exact ⟨by kernel_rfl, fun j t ht => by
       have hall : (Tryd.f7.params.toList.all fun u => !Tryd.prog.wantsStandIn u) = true := by kernel_rfl
       exact (show Tryd.prog.wantsStandIn t = false by simpa using List.all_eq_true.1 hall t (Array.mem_toList_iff.2 (Array.mem_of_getElem? ht)))⟩)
   (by kernel_rfl)
end Go.Proofs.YthldjgjpokjliaaDoor
