/- Evidence: how the arguments of the laws open; few records. Conditions: none. -/
import Derived.Test.YtjfjpnefohbobaaGreatDoorWd
import Derived.Test.YtjfjpnefohbobaaGreatDoorWe
import Derived.Test.YtjfjpnefohbobaaGreatDoorWm
import Derived.Test.YtjfjpnefohbobaaGreatDoorRows
import Derived.Test.YtjfjpnefohbobaaGreatDoorTie
import Derived.Test.YtjfjpnefohbobaaGreatDoorCards
import Derived.SevenTiedAt
set_option linter.unusedSimpArgs false
set_option linter.unusedVariables false
set_option maxRecDepth 20000
set_option maxHeartbeats 4000000
namespace Go.Proofs.YtjfjpnefohbobaaGreatDoor
open Go.Avc
theorem bytes32 {parts : List (List PV)} (hl : parts.length = 32) (h : ∀ r ∈ parts, ∃ b : UInt8, r = [.val (.int .u8 b.toNat)]) : ∃ d : List UInt8, parts.flatten = dcells d ∧ d.length = 32 := by
 obtain ⟨bs, rfl, _⟩ := rows_map (f := fun b : UInt8 => [PV.val (.int .u8 b.toNat)]) (R := fun _ => True) (fun r hr => by obtain ⟨b, hb⟩ := h r hr; exact ⟨b, hb, trivial⟩)
 rw [List.length_map] at hl
 exact ⟨bs, dcells_eq hl, hl⟩
theorem op_digest : Opn Tryz.prog 23 (fun ps => ∃ d : List UInt8, ps = dcells d ∧ d.length = 32) :=
 (Opn.array (n := 32) Tryz.underlying23 (by kernel_rfl) op_byte).mono fun _ ⟨parts, h, hl, hr⟩ => by
   obtain ⟨d, hd, h32⟩ := bytes32 hl hr
   exact ⟨d, by rw [h, hd], h32⟩
theorem op_rec : Opn Tryz.prog 48 (fun ps => ∃ r : Rec, ps = encR r ∧ r.ok ∧ r.body.length ≤ 140737488355328) :=
 (Opn.struct (Qs := [_, _, _, _, _, _]) Tryz.underlying48 (by kernel_rfl) (fun fuel => ⟨op_int fuel, op_int fuel, op_int fuel, op_int fuel, op_bytes fuel, op_digest fuel, trivial⟩)).mono fun _ h => by
   obtain ⟨_, ⟨a, rfl, ha⟩, _, ⟨_, ⟨b, rfl, hb⟩, _, ⟨_, ⟨c, rfl, hc⟩, _, ⟨_, ⟨d, rfl, hd⟩, _, ⟨_, ⟨s, rfl, hs⟩, _, ⟨_, ⟨p, rfl, hp⟩, _, rfl, rfl⟩, rfl⟩, rfl⟩, rfl⟩, rfl⟩, rfl⟩ := h
   exact ⟨⟨a, b, c, d, s, p⟩, rfl, ⟨ha, hb, hc, hd, hp⟩, hs⟩
theorem op_recs : Opn Tryz.prog 30 (fun ps => ∃ l : List Rec, ps = [encRs l] ∧ ∀ r ∈ l, r.ok) :=
 (Opn.slice (n := 37) Tryz.underlying30 (by kernel_rfl) (by omega) op_rec).mono fun _ ⟨rows, h, hr, _⟩ => by
   obtain ⟨l, rfl, hl⟩ := rows_map (f := encR) (R := fun r => r.ok) (fun r h => by obtain ⟨x, hx, ho, _⟩ := hr r h; exact ⟨x, hx, ho⟩)
   exact ⟨l, h, hl⟩
theorem few_can {l : List Rec} (hl : ∀ r ∈ l, r.ok) (h : fewR l = true) : (∀ r ∈ l, r.can) ∧ l.length ≤ 30 ∧ ∀ r ∈ l, r.body.length ≤ 3000 := by
 unfold fewR at h
 rw [Bool.and_eq_true, List.all_eq_true] at h
 have h1 := of_decide_eq_true h.1
 have h2 : ∀ r ∈ l, r.body.length ≤ 3000 := fun r hr => of_decide_eq_true (h.2 r hr)
 exact ⟨fun r hr => ⟨hl r hr, by have := h2 r hr; omega⟩, h1, h2⟩
end Go.Proofs.YtjfjpnefohbobaaGreatDoor
/- Evidence: what the closings share: the listed table. Conditions: none. -/
namespace Go.Proofs.YtjfjpnefohbobaaGreatDoor
open Go.Avc
def kInts : List Int := sha256K.map fun n : Nat => (n : Int)
theorem kLaid : Rows.laid_testamur_digest_constants = (.agg (kInts.map fun m => .lit (.int .u32 m)) : DataW Unit) := rfl
theorem door_met (os : Os) (args : Array Value) : laidMetH Tryz.prog [("testamur/digest.constants", Rows.laid_testamur_digest_constants)] ((World.doorLaid Tryz.prog 400 os).forCall (fun _ _ => 0) ⟨#[], args, []⟩).memory :=
 laidMetH_of_parts3 (fuel := 8) (laidMet_of_run' 8 (by kernel_rfl) (by kernel_rfl)) (by kernel_rfl) (by kernel_rfl)
theorem kGlob (W : World) (h : laidMetH Tryz.prog [("testamur/digest.constants", Rows.laid_testamur_digest_constants)] W) : GlobOK Tryz.prog W (fun _ => False) :=
 globOK_one (g := 0) (by kernel_rfl) (rows := kInts.map fun m => [.val (.int .u32 m)]) (by kernel_rfl)
   (par_of_laid (ns := kInts) (k := .u32) (by kernel_rfl) h (by rw [← kLaid]; exact List.mem_singleton.2 rfl) (by kernel_rfl) (t := 174) (by kernel_rfl) (e := 101) (by kernel_rfl) (by kernel_rfl) (by kernel_rfl))
end Go.Proofs.YtjfjpnefohbobaaGreatDoor
