/- Schedules: the tied card 'ScheduleMore'. Conditions: none. -/
import Derived.Test.YthldjgjpokjliaaDoorWv
import Derived.Test.YthldjgjpokjliaaDoorWt
set_option linter.unusedSimpArgs false
set_option linter.unusedVariables false
set_option maxRecDepth 20000
set_option maxHeartbeats 4000000
namespace Go.Proofs.YthldjgjpokjliaaDoor
open Go.Avc
theorem scheduleMore_lifted (os : Os) (started : os.Started) (H : Type) (enc : TypeId × Value → H) :
   ReturnsInHanded {} Tryd.checked os 9 .any (fun w args => (Rows.scheduleMoreSpec.pre enc Tryd.prog Tryd.f9 [] false w args ∧ laidMetH Tryd.prog [("math/bits.deBruijn32tab", Rows.laid_math_bits_deBruijn32tab), ("math/bits.deBruijn64tab", Rows.laid_math_bits_deBruijn64tab)] w) ∧ sizedMet enc Tryd.prog Tryd.f9 (OpenSpec.ofChange Rows.scheduleMoreSpec) false w args) (Rows.scheduleMoreSpec.post enc Tryd.prog Tryd.f9 false true false false) := by
 refine law_laid (C := Tryd.checked) (n := 6) own started (by kernel_rfl) Tryd.func9
   (ChangeSpec.witness_shaped (enc := enc) (C := Tryd.checked) (os := os) (X := fun w _ => laidMetH Tryd.prog [("math/bits.deBruijn32tab", Rows.laid_math_bits_deBruijn32tab), ("math/bits.deBruijn64tab", Rows.laid_math_bits_deBruijn64tab)] w) false (World.doorLaid Tryd.prog 400 os) #[.slice none 0 0, .slice none 0 0, .int .u8 0, .int .u8 0, .int .u8 0, .int .i64 0] 8 rfl (World.shaped_of_RefB (by kernel_rfl) (by kernel_rfl)) (by kernel_rfl) (by kernel_rfl) (by kernel_rfl) (door_met os _))
   laidOut ⟨rfl, fun H ds hd => ?_⟩ rfl rfl Tryd.underlying4 (by kernel_rfl) (Qs := [_, _, _, _, _, _]) ⟨op_sks, op_nds, op_byteN, op_byteN, op_byteN, op_intR, trivial⟩ (gs := [false, false, false, false, false, false]) (by kernel_rfl) ?_ kGlob
 · match ds, hd with
   | [d0, d1, d2, d3, d4, d5], _ => rfl
 · rintro _ ⟨s, rfl, hs⟩ _ ⟨d, rfl, hd, gd, kd⟩ _ ⟨a, rfl, ha⟩ _ ⟨b, rfl, hb⟩ _ ⟨f, rfl, hf⟩ _ ⟨z, rfl, hz⟩
   exact more_law s d a b f z ⟨hs, hd, gd, kd⟩ ha hb hf hz
theorem scheduleMore_proved : Rows.ScheduleMoreSaid :=
 OpenClaim.holds_of_wide 9 Tryd.f9 rfl rfl rfl rfl rfl rfl rfl ⟨rfl, rfl, rfl, rfl, rfl⟩ rfl rfl rfl rfl rfl (by kernel_rfl) Tryd.func9 (by kernel_rfl)
   (of_decide_eq_true (by kernel_rfl)) (by unfold Func.isWrapper; first | (rw [if_pos (by decide +kernel)]; kernel_rfl) | (rw [if_neg (by decide +kernel)]; exact ⟨rfl, rfl⟩))
   (fun os started H enc _ => scheduleMore_lifted os started H enc)
theorem scheduleMore_card : Rows.ScheduleMoreCardSaid :=
 Claim7.holds_tied_plain_at .later [] [.data, .data] true Rows.scheduleMoreCard.stood.harness false
   scheduleMore_proved (fun _ h => by cases h) (by kernel_rfl) (fun _ h => by cases h) scheduleMore_row_tie rfl ⟨rfl, rfl⟩ (by kernel_rfl) rfl
   (fun f fn hf hfn => by
     obtain rfl : f = 9 := Option.some.inj ((show Tryd.prog.funcNamed "testamur/testamurlaw32.ScheduleMore" = some 9 by kernel_rfl).symm.trans hf) |>.symm
     obtain rfl : fn = Tryd.f9 := (Option.some.inj (Tryd.func9.symm.trans hfn)).symm
     exact ⟨by kernel_rfl, fun j t ht => by
       have hall : (Tryd.f9.params.toList.all fun u => !Tryd.prog.wantsStandIn u) = true := by kernel_rfl
       exact (show Tryd.prog.wantsStandIn t = false by simpa using List.all_eq_true.1 hall t (Array.mem_toList_iff.2 (Array.mem_of_getElem? ht)))⟩)
   (by kernel_rfl)
end Go.Proofs.YthldjgjpokjliaaDoor
