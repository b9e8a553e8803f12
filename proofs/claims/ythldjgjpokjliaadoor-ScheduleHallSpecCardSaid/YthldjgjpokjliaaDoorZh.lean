/- Schedules: the tied card 'ScheduleHallSpec'. Conditions: none. -/
import Derived.Test.YthldjgjpokjliaaDoorWv
import Derived.Test.YthldjgjpokjliaaDoorWq
set_option linter.unusedSimpArgs false
set_option linter.unusedVariables false
set_option maxRecDepth 20000
set_option maxHeartbeats 4000000
namespace Go.Proofs.YthldjgjpokjliaaDoor
open Go.Avc
theorem scheduleHallSpec_lifted (os : Os) (started : os.Started) (H : Type) (enc : TypeId × Value → H) :
   ReturnsInHanded {} Tryd.checked os 4 .any (fun w args => (Rows.scheduleHallSpecSpec.pre enc Tryd.prog Tryd.f4 [] false w args ∧ laidMetH Tryd.prog [("math/bits.deBruijn32tab", Rows.laid_math_bits_deBruijn32tab), ("math/bits.deBruijn64tab", Rows.laid_math_bits_deBruijn64tab)] w) ∧ sizedMet enc Tryd.prog Tryd.f4 (OpenSpec.ofChange Rows.scheduleHallSpecSpec) false w args) (Rows.scheduleHallSpecSpec.post enc Tryd.prog Tryd.f4 false true false false) := by
 refine law_laid (C := Tryd.checked) (n := 2) own started (by kernel_rfl) Tryd.func4
   (ChangeSpec.witness_shaped (enc := enc) (C := Tryd.checked) (os := os) (X := fun w _ => laidMetH Tryd.prog [("math/bits.deBruijn32tab", Rows.laid_math_bits_deBruijn32tab), ("math/bits.deBruijn64tab", Rows.laid_math_bits_deBruijn64tab)] w) false (World.doorLaid Tryd.prog 400 os) #[.slice none 0 0, .slice none 0 0] 8 rfl (World.shaped_of_RefB (by kernel_rfl) (by kernel_rfl)) (by kernel_rfl) (by kernel_rfl) (by kernel_rfl) (door_met os _))
   laidOut ⟨rfl, fun H ds hd => ?_⟩ rfl rfl Tryd.underlying4 (by kernel_rfl) (Qs := [_, _]) ⟨op_sks, op_nds, trivial⟩ (gs := [false, false]) (by kernel_rfl) ?_ kGlob
 · match ds, hd with
   | [d0, d1], _ => rfl
 · rintro _ ⟨s, rfl, hs⟩ _ ⟨d, rfl, hd, gd, kd⟩
   exact hallSpec_law s d ⟨hs, hd, gd, kd⟩
theorem scheduleHallSpec_proved : Rows.ScheduleHallSpecSaid :=
 OpenClaim.holds_of_wide 4 Tryd.f4 rfl rfl rfl rfl rfl rfl rfl ⟨rfl, rfl, rfl, rfl, rfl⟩ rfl rfl rfl rfl rfl (by kernel_rfl) Tryd.func4 (by kernel_rfl)
   (of_decide_eq_true (by kernel_rfl)) (by unfold Func.isWrapper; first | (rw [if_pos (by decide +kernel)]; kernel_rfl) | (rw [if_neg (by decide +kernel)]; exact ⟨rfl, rfl⟩))
   (fun os started H enc _ => scheduleHallSpec_lifted os started H enc)
theorem scheduleHallSpec_card : Rows.ScheduleHallSpecCardSaid :=
 Claim7.holds_tied_plain_at .later [] [.data, .data] true Rows.scheduleHallSpecCard.stood.harness false
   scheduleHallSpec_proved (fun _ h => by cases h) (by kernel_rfl) (fun _ h => by cases h) scheduleHallSpec_row_tie rfl ⟨rfl, rfl⟩ (by kernel_rfl) rfl
   (fun f fn hf hfn => by
     obtain rfl : f = 4 := Option.some.inj ((show Tryd.prog.funcNamed "testamur/testamurlaw32.ScheduleHallSpec" = some 4 by kernel_rfl).symm.trans hf) |>.symm
     obtain rfl : fn = Tryd.f4 := (Option.some.inj (Tryd.func4.symm.trans hfn)).symm
     exact ⟨by kernel_rfl, fun j t ht => by
       have hall : (Tryd.f4.params.toList.all fun u => !Tryd.prog.wantsStandIn u) = true := by kernel_rfl
       exact (show Tryd.prog.wantsStandIn t = false by simpa using List.all_eq_true.1 hall t (Array.mem_toList_iff.2 (Array.mem_of_getElem? ht)))⟩)
   (by kernel_rfl)
end Go.Proofs.YthldjgjpokjliaaDoor
