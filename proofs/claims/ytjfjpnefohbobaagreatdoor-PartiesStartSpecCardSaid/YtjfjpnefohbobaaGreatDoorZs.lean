/- Parties: the tied card 'PartiesStartSpec'. Conditions: none. -/
import Derived.Test.YtjfjpnefohbobaaGreatDoorXf
import Derived.Test.YtjfjpnefohbobaaGreatDoorXm
set_option linter.unusedSimpArgs false
set_option linter.unusedVariables false
set_option maxRecDepth 20000
set_option maxHeartbeats 4000000
namespace Go.Proofs.YtjfjpnefohbobaaGreatDoor
open Go.Avc
theorem partiesStartSpec_lifted (os : Os) (started : os.Started) (H : Type) (enc : TypeId × Value → H) :
   ReturnsInHanded {} Tryz.checked os 4 .any (fun w args => (Rows.partiesStartSpecSpec.pre enc Tryz.prog Tryz.f4 [] false w args ∧ laidMetH Tryz.prog [("testamur/digest.constants", Rows.laid_testamur_digest_constants)] w) ∧ sizedMet enc Tryz.prog Tryz.f4 (OpenSpec.ofChange Rows.partiesStartSpecSpec) false w args) (Rows.partiesStartSpecSpec.post enc Tryz.prog Tryz.f4 false true false false) := by
 refine law_laid (C := Tryz.checked) (n := 6) own started (by kernel_rfl) Tryz.func4
   (ChangeSpec.witness_shaped (enc := enc) (C := Tryz.checked) (os := os) (X := fun w _ => laidMetH Tryz.prog [("testamur/digest.constants", Rows.laid_testamur_digest_constants)] w) false (World.doorLaid Tryz.prog 400 os) #[.int .i64 0, .int .i64 0, .int .i64 0, .agg #[.int .u8 0, .int .u8 0, .int .u8 0, .int .u8 0, .int .u8 0, .int .u8 0, .int .u8 0, .int .u8 0, .int .u8 0, .int .u8 0, .int .u8 0, .int .u8 0, .int .u8 0, .int .u8 0, .int .u8 0, .int .u8 0, .int .u8 0, .int .u8 0, .int .u8 0, .int .u8 0, .int .u8 0, .int .u8 0, .int .u8 0, .int .u8 0, .int .u8 0, .int .u8 0, .int .u8 0, .int .u8 0, .int .u8 0, .int .u8 0, .int .u8 0, .int .u8 0], .agg #[.int .i64 0, .int .i64 0, .int .u8 0, .int .u8 0, .int .u8 0, .int .u8 0, .int .u8 0, .int .u8 0, .int .u8 0, .int .u8 0, .int .u8 0, .int .u8 0, .int .u8 0, .int .u8 0, .int .u8 0, .int .u8 0, .int .u8 0, .int .u8 0, .int .u8 0, .int .u8 0, .int .u8 0, .int .u8 0, .int .u8 0, .int .u8 0, .int .u8 0, .int .u8 0, .int .u8 0, .int .u8 0, .int .u8 0, .int .u8 0, .int .u8 0, .int .u8 0, .int .u8 0, .int .u8 0, .slice none 0 0, .slice none 0 0, .int .i64 0, .bool false, .slice none 0 0, .int .i64 0, .int .i64 0, .slice none 0 0], .int .i64 0] 8 rfl (World.shaped_of_RefB (by kernel_rfl) (by kernel_rfl)) (by kernel_rfl) (by kernel_rfl) (by kernel_rfl) (door_met os _))
   laidOut ⟨rfl, fun H ds hd => ?_⟩ rfl rfl Tryz.underlying4 (by kernel_rfl) (Qs := [_, _, _, _, _, _]) ⟨op_int, op_int, op_int, op_digest, op_party, op_int, trivial⟩ (gs := [false, false, false, true, true, false]) (by kernel_rfl) ?_ kGlob
 · match ds, hd with
   | [d0, d1, d2, d3, d4, d5], _ => rfl
 · rintro _ ⟨k, rfl, hk⟩ _ ⟨i, rfl, hi⟩ _ ⟨n, rfl, hn⟩ _ ⟨s, rfl, hs⟩ _ ⟨p, rfl, hp⟩ _ ⟨l, rfl, hl⟩
   exact startSpec_law k i n s p l hs hp
theorem partiesStartSpec_proved : Rows.PartiesStartSpecSaid :=
 OpenClaim.holds_of_wide 4 Tryz.f4 rfl rfl rfl rfl rfl rfl rfl ⟨rfl, rfl, rfl, rfl, rfl⟩ rfl rfl rfl rfl rfl (by kernel_rfl) Tryz.func4 (by kernel_rfl)
   (of_decide_eq_true (by kernel_rfl)) (by unfold Func.isWrapper; first | (rw [if_pos (by decide +kernel)]; kernel_rfl) | (rw [if_neg (by decide +kernel)]; exact ⟨rfl, rfl⟩))
   (fun os started H enc _ => partiesStartSpec_lifted os started H enc)
theorem partiesStartSpec_card : Rows.PartiesStartSpecCardSaid :=
 Claim7.holds_tied_plain_at .later [] [.data] true Rows.partiesStartSpecCard.stood.harness false
   partiesStartSpec_proved (fun _ h => by cases h) (by kernel_rfl) (fun _ h => by cases h) partiesStartSpec_row_tie rfl ⟨rfl, rfl⟩ (by kernel_rfl) rfl
   (fun f fn hf hfn => by
     obtain rfl : f = 4 := Option.some.inj ((show Tryz.prog.funcNamed "testamur/testamurlaw51.PartiesStartSpec" = some 4 by kernel_rfl).symm.trans hf) |>.symm
     obtain rfl : fn = Tryz.f4 := (Option.some.inj (Tryz.func4.symm.trans hfn)).symm
     exact ⟨by kernel_rfl, fun j t ht => by
       have hall : (Tryz.f4.params.toList.all fun u => !Tryz.prog.wantsStandIn u) = true := by kernel_rfl
       exact (show Tryz.prog.wantsStandIn t = false by simpa using List.all_eq_true.1 hall t (Array.mem_toList_iff.2 (Array.mem_of_getElem? ht)))⟩)
   (by kernel_rfl)
end Go.Proofs.YtjfjpnefohbobaaGreatDoor
