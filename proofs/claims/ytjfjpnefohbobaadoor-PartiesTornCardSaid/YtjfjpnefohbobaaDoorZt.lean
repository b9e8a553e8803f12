/- Parties: the tied card 'PartiesTorn'. Conditions: none. -/
import Derived.Test.YtjfjpnefohbobaaDoorXf
import Derived.Test.YtjfjpnefohbobaaDoorXh
set_option linter.unusedSimpArgs false
set_option linter.unusedVariables false
namespace Go.Proofs.YtjfjpnefohbobaaDoor
open Go.Avc
set_option maxRecDepth 100000
theorem partiesTorn_lifted (os : Os) (started : os.Started) (H : Type) (enc : TypeId × Value → H) :
    ReturnsInHanded {} Tryd.checked os 3 .any (fun w args => (Rows.partiesTornSpec.pre enc Tryd.prog Tryd.f3 [] false w args ∧ laidMetH Tryd.prog [("testamur/digest.constants", Rows.laid_testamur_digest_constants)] w) ∧ sizedMet enc Tryd.prog Tryd.f3 (OpenSpec.ofChange Rows.partiesTornSpec) false w args) (Rows.partiesTornSpec.post enc Tryd.prog Tryd.f3 false true false false) := by
  refine law_laid (C := Tryd.checked) (n := 5) own started (by kernel_rfl) Tryd.func3
    (ChangeSpec.witness_shaped (enc := enc) (C := Tryd.checked) (os := os) (X := fun w _ => laidMetH Tryd.prog [("testamur/digest.constants", Rows.laid_testamur_digest_constants)] w) false (World.doorLaid Tryd.prog 400 os) #[.agg #[.int .i64 0, .int .i64 0, .int .u8 0, .int .u8 0, .int .u8 0, .int .u8 0, .int .u8 0, .int .u8 0, .int .u8 0, .int .u8 0, .int .u8 0, .int .u8 0, .int .u8 0, .int .u8 0, .int .u8 0, .int .u8 0, .int .u8 0, .int .u8 0, .int .u8 0, .int .u8 0, .int .u8 0, .int .u8 0, .int .u8 0, .int .u8 0, .int .u8 0, .int .u8 0, .int .u8 0, .int .u8 0, .int .u8 0, .int .u8 0, .int .u8 0, .int .u8 0, .int .u8 0, .int .u8 0, .slice none 0 0, .slice none 0 0, .int .i64 0, .bool false, .slice none 0 0, .int .i64 0, .int .i64 0, .slice none 0 0], .int .i64 0, .int .i64 0, .slice none 0 0, .int .u8 0] 8 rfl (World.shaped_of_RefB (by kernel_rfl) (by kernel_rfl)) (by kernel_rfl) (by kernel_rfl) (by kernel_rfl) (door_met os _))
    laidOut ⟨rfl, fun H ds hd => ?_⟩ rfl rfl Tryd.underlying4 (by kernel_rfl) (Qs := [_, _, _, _, _]) ⟨op_party, op_int, op_int, op_bytes, op_byte, trivial⟩ (gs := [true, false, false, false, false]) (by kernel_rfl) ?_ kGlob
  · match ds, hd with
    | [d0, d1, d2, d3, d4], _ => rfl
  · rintro _ ⟨p, rfl, hp⟩ _ ⟨k, rfl, hk⟩ _ ⟨d, rfl, hd⟩ _ ⟨b, rfl, hb⟩ _ ⟨u, rfl⟩
    exact torn_law p k d b u hp hb
theorem partiesTorn_proved : Rows.PartiesTornSaid :=
  OpenClaim.holds_of_wide 3 Tryd.f3 rfl rfl rfl rfl rfl rfl rfl ⟨rfl, rfl, rfl, rfl, rfl⟩ rfl rfl rfl rfl rfl (by kernel_rfl) Tryd.func3 (by kernel_rfl)
    (of_decide_eq_true (by kernel_rfl)) (by unfold Func.isWrapper; first | (rw [if_pos (by decide +kernel)]; kernel_rfl) | (rw [if_neg (by decide +kernel)]; exact ⟨rfl, rfl⟩))
    (fun os started H enc _ => partiesTorn_lifted os started H enc)
theorem partiesTorn_card : Rows.PartiesTornCardSaid :=
  Claim7.holds_tied_plain_at .later [] [.data] true Rows.partiesTornCard.stood.harness false
    partiesTorn_proved (fun _ h => by cases h) (by kernel_rfl) (fun _ h => by cases h) partiesTorn_row_tie rfl ⟨rfl, rfl⟩ (by kernel_rfl) rfl
    (fun f fn hf hfn => by
      obtain rfl : f = 3 := Option.some.inj ((show Tryd.prog.funcNamed "testamur/testamurlaw51.PartiesTorn" = some 3 by kernel_rfl).symm.trans hf) |>.symm
      obtain rfl : fn = Tryd.f3 := (Option.some.inj (Tryd.func3.symm.trans hfn)).symm
      exact ⟨by kernel_rfl, fun j t ht => by
        have hall : (Tryd.f3.params.toList.all fun u => !Tryd.prog.wantsStandIn u) = true := by kernel_rfl
        exact (show Tryd.prog.wantsStandIn t = false by simpa using List.all_eq_true.1 hall t (Array.mem_toList_iff.2 (Array.mem_of_getElem? ht)))⟩)
    (by kernel_rfl)
end Go.Proofs.YtjfjpnefohbobaaDoor
