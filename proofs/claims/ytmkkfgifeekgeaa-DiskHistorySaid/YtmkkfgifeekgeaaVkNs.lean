/- Disks: how a script opens. Conditions: none. -/
import Derived.Test.YtmkkfgifeekgeaaVkN
import Derived.Test.YtmkkfgifeekgeaaVkR
namespace Go.Proofs.Ytmkkfgifeekgeaa
open Go.Avc
theorem op_act : Opn Try.prog 46 (fun ps => ∃ a : Bool × UInt8 × UInt8, ps = encAct a) :=
  (Opn.struct (Qs := [_, _, _]) Try.underlying46 (by kernel_rfl) (fun fuel => ⟨Opn.bool Try.underlying4 fuel, op_byte fuel, op_byte fuel, trivial⟩)).mono fun _ h => by
    obtain ⟨_, ⟨b, rfl⟩, _, ⟨_, ⟨x, rfl⟩, _, ⟨_, ⟨y, rfl⟩, _, rfl, rfl⟩, rfl⟩, rfl⟩ := h
    exact ⟨(b, x, y), rfl⟩
theorem op_script : Opn Try.prog 43 (fun ps => ∃ sc : List (Bool × UInt8 × UInt8), ps = [encActs sc]) :=
  (Opn.slice (n := 3) Try.underlying43 (by kernel_rfl) (by omega) op_act).mono fun _ ⟨rows, h, hr, _⟩ => by
    obtain ⟨sc, rfl, _⟩ := rows_map (f := encAct) (R := fun _ => True) (fun r h => by obtain ⟨a, ha⟩ := hr r h; exact ⟨a, ha, trivial⟩)
    exact ⟨sc, h⟩
end Go.Proofs.Ytmkkfgifeekgeaa
