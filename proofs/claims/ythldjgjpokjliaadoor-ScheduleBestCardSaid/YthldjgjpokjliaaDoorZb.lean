/- Schedules: the tied card 'ScheduleBest'. Conditions: none. -/
import Derived.Test.YthldjgjpokjliaaDoorWv
import Derived.Test.YthldjgjpokjliaaDoorWu
set_option linter.unusedSimpArgs false
set_option linter.unusedVariables false
set_option maxRecDepth 20000
set_option maxHeartbeats 4000000
namespace Go.Proofs.YthldjgjpokjliaaDoor
open Go.Avc
theorem scheduleBest_lifted (os : Os) (started : os.Started) (H : Type) (enc : TypeId × Value → H) :
   ReturnsInHanded {} Tryd.checked os 8 .any (fun w args => (Rows.scheduleBestSpec.pre enc Tryd.prog Tryd.f8 [] false w args ∧ laidMetH Tryd.prog [("math/bits.deBruijn32tab", Rows.laid_math_bits_deBruijn32tab), ("math/bits.deBruijn64tab", Rows.laid_math_bits_deBruijn64tab)] w) ∧ sizedMet enc Tryd.prog Tryd.f8 (OpenSpec.ofChange Rows.scheduleBestSpec) false w args) (Rows.scheduleBestSpec.post enc Tryd.prog Tryd.f8 false true false false) := by
 refine law_laid (C := Tryd.checked) (n := 4) own started (by kernel_rfl) Tryd.func8
   (ChangeSpec.witness_shaped (enc := enc) (C := Tryd.checked) (os := os) (X := fun w _ => laidMetH Tryd.prog [("math/bits.deBruijn32tab", Rows.laid_math_bits_deBruijn32tab), ("math/bits.deBruijn64tab", Rows.laid_math_bits_deBruijn64tab)] w) false (World.doorLaid Tryd.prog 400 os) #[.slice none 0 0, .slice none 0 0, .agg #[.int .i64 0, .int .i64 0, .int .i64 0, .slice none 0 0], .int .i64 0] 8 rfl (World.shaped_of_RefB (by kernel_rfl) (by kernel_rfl)) (by kernel_rfl) (by kernel_rfl) (by kernel_rfl) (door_met os _))
   laidOut ⟨rfl, fun H ds hd => ?_⟩ rfl rfl Tryd.underlying4 (by kernel_rfl) (Qs := [_, _, _, _]) ⟨op_sks, op_nds, op_nd, op_int, trivial⟩ (gs := [false, false, true, false]) (by kernel_rfl) ?_ kGlob
 · match ds, hd with
   | [d0, d1, d2, d3], _ => rfl
 · rintro _ ⟨s, rfl, hs⟩ _ ⟨d, rfl, hd, gd, kd⟩ _ ⟨x, rfl, hx⟩ _ ⟨t, rfl⟩
   exact best_law s d x t ⟨hs, hd, gd, kd⟩ hx
theorem scheduleBest_proved : Rows.ScheduleBestSaid :=
 OpenClaim.holds_of_wide 8 Tryd.f8 rfl rfl rfl rfl rfl rfl rfl ⟨rfl, rfl, rfl, rfl, rfl⟩ rfl rfl rfl rfl rfl (by kernel_rfl) Tryd.func8 (by kernel_rfl)
   (of_decide_eq_true (by kernel_rfl)) (by unfold Func.isWrapper; first | (rw [if_pos (by decide +kernel)]; kernel_rfl) | (rw [if_neg (by decide +kernel)]; exact ⟨rfl, rfl⟩))
   (fun os started H enc _ => scheduleBest_lifted os started H enc)
theorem scheduleBest_card : Rows.ScheduleBestCardSaid :=
 Claim7.holds_tied_plain_at .later [] [.data, .data] true Rows.scheduleBestCard.stood.harness false
   scheduleBest_proved (fun _ h => by cases h) (by kernel_rfl) (fun _ h => by cases h) scheduleBest_row_tie rfl ⟨rfl, rfl⟩ (by kernel_rfl) rfl
   (fun f fn hf hfn => by
     obtain rfl : f = 8 := Option.some.inj ((show Tryd.prog.funcNamed "testamur/testamurlaw32.ScheduleBest" = some 8 by kernel_rfl).symm.trans hf) |>.symm
     obtain rfl : fn = Tryd.f8 := (Option.some.inj (Tryd.func8.symm.trans hfn)).symm
     exact ⟨by kernel_rfl, fun j t ht => by
       have hall : (Tryd.f8.params.toList.all fun u => !Tryd.prog.wantsStandIn u) = true := by kernel_rfl
       exact (show Tryd.prog.wantsStandIn t = false by simpa using List.all_eq_true.1 hall t (Array.mem_toList_iff.2 (Array.mem_of_getElem? ht)))⟩)
   (by kernel_rfl)
end Go.Proofs.YthldjgjpokjliaaDoor
