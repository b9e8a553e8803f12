/- Schedules: how the arguments of the laws open. Conditions: none. -/
import Derived.Test.YthldjgjpokjliaaDoorWd
import Derived.Test.YthldjgjpokjliaaDoorWq
import Derived.KernelRfl
import Derived.Test.YthldjgjpokjliaaDoorRows
import Derived.Test.YthldjgjpokjliaaDoorTie
import Derived.Test.YthldjgjpokjliaaDoorCards
import Derived.SevenTiedAt
set_option linter.unusedSimpArgs false
set_option linter.unusedVariables false
set_option maxRecDepth 20000
set_option maxHeartbeats 4000000
namespace Go.Proofs.YthldjgjpokjliaaDoor
open Go.Avc
theorem own : ownKnob Tryd.prog.godebug = none := by kernel_rfl
theorem laidOut : laidOutB Tryd.prog = true := by kernel_rfl
theorem op_int : Opn Tryd.prog 3 (fun ps => ∃ n : Int, ps = [.int n]) := (Opn.int Tryd.underlying3).mono fun _ ⟨n, h, _⟩ => ⟨n, h⟩
theorem has_i64 {n : Int} (h : IntKind.i64.has n) : -9223372036854775808 ≤ n ∧ n ≤ 9223372036854775807 := by
 have e1 : IntKind.i64.min = -9223372036854775808 := by decide +kernel
 have e2 : IntKind.i64.max = 9223372036854775807 := by decide +kernel
 unfold IntKind.has at h
 rw [e1, e2] at h
 exact h
theorem has_u8 {n : Int} (h : IntKind.u8.has n) : 0 ≤ n ∧ n ≤ 255 := by
 have e1 : IntKind.u8.min = 0 := by decide +kernel
 have e2 : IntKind.u8.max = 255 := by decide +kernel
 unfold IntKind.has at h
 rw [e1, e2] at h
 exact h
theorem op_intR : Opn Tryd.prog 3 (fun ps => ∃ n : Int, ps = [.int n] ∧ (-9223372036854775808 ≤ n ∧ n ≤ 9223372036854775807)) := (Opn.int Tryd.underlying3).mono fun _ ⟨n, h, hr⟩ => ⟨n, h, has_i64 hr⟩
theorem op_byteN : Opn Tryd.prog 5 (fun ps => ∃ n : Nat, ps = [.val (.int .u8 n)] ∧ n < 256) := (Opn.int Tryd.underlying5).mono fun _ ⟨n, h, hr⟩ => ⟨n.toNat, by rw [h, Int.toNat_of_nonneg (has_u8 hr).1], by have := has_u8 hr; omega⟩
theorem reach_len {n m : Nat} (h : n * m ≤ reachBytes) (hm : 0 < m) : n ≤ 140737488355328 := by
 have h1 : n * 1 ≤ n * m := Nat.mul_le_mul_left n hm
 have h2 : reachBytes ≤ 140737488355328 := by decide
 omega
theorem op_ints : Opn Tryd.prog 26 (fun ps => ∃ l : List Int, ps = [encIs l] ∧ l.length ≤ 140737488355328) :=
 (Opn.slice (n := 1) Tryd.underlying26 (by kernel_rfl) (by omega) op_int).mono fun _ ⟨rows, h, hr, hl⟩ => by
   obtain ⟨l, rfl, hq⟩ := rows_map (f := fun x => [PV.int x]) (R := fun _ => True) (fun r h => by obtain ⟨b, hb⟩ := hr r h; exact ⟨b, hb, trivial⟩)
   rw [List.length_map] at hl
   exact ⟨l, h, reach_len hl (by decide +kernel)⟩
theorem op_sk : Opn Tryd.prog 41 (fun ps => ∃ s : Sk, ps = encSk s) :=
 (Opn.struct (Qs := [_, _, _]) Tryd.underlying41 (by kernel_rfl) (fun fuel => ⟨op_int fuel, op_int fuel, op_int fuel, trivial⟩)).mono fun _ h => by
   obtain ⟨_, ⟨a, rfl⟩, _, ⟨_, ⟨b, rfl⟩, _, ⟨_, ⟨c, rfl⟩, _, rfl, rfl⟩, rfl⟩, rfl⟩ := h
   exact ⟨⟨a, b, c⟩, rfl⟩
theorem op_sks : Opn Tryd.prog 22 (fun ps => ∃ l : List Sk, ps = [encSks l] ∧ l.length ≤ 140737488355328) :=
 (Opn.slice (n := 3) Tryd.underlying22 (by kernel_rfl) (by omega) op_sk).mono fun _ ⟨rows, h, hr, hl⟩ => by
   obtain ⟨l, rfl, hq⟩ := rows_map (f := encSk) (R := fun _ => True) (fun r h => by obtain ⟨b, hb⟩ := hr r h; exact ⟨b, hb, trivial⟩)
   rw [List.length_map] at hl
   exact ⟨l, h, reach_len hl (by decide +kernel)⟩
theorem op_nd : Opn Tryd.prog 35 (fun ps => ∃ x : Nd, ps = encNd x ∧ x.rounds.length ≤ 140737488355328) :=
 (Opn.struct (Qs := [_, _, _, _]) Tryd.underlying35 (by kernel_rfl) (fun fuel => ⟨op_int fuel, op_int fuel, op_int fuel, op_ints fuel, trivial⟩)).mono fun _ h => by
   obtain ⟨_, ⟨a, rfl⟩, _, ⟨_, ⟨b, rfl⟩, _, ⟨_, ⟨c, rfl⟩, _, ⟨_, ⟨d, rfl, hd⟩, _, rfl, rfl⟩, rfl⟩, rfl⟩, rfl⟩ := h
   exact ⟨⟨a, b, c, d⟩, rfl, hd⟩
theorem op_nds : Opn Tryd.prog 23 (fun ps => ∃ l : List Nd, ps = [encNds l] ∧ l.length ≤ 140737488355328 ∧ (∀ x ∈ l, x.rounds.length ≤ 140737488355328) ∧ l.length * 48 ≤ 140737488351232) :=
 (Opn.slice (n := 4) Tryd.underlying23 (by kernel_rfl) (by omega) op_nd).mono fun _ ⟨rows, h, hr, hl⟩ => by
   obtain ⟨l, rfl, hq⟩ := rows_map (f := encNd) (R := fun x => x.rounds.length ≤ 140737488355328) (fun r h => by obtain ⟨b, hb, hc⟩ := hr r h; exact ⟨b, hb, hc⟩)
   rw [List.length_map] at hl
   have h48 : Tryd.prog.bytesOf 35 = 48 := by decide +kernel
   have hrb : reachBytes = 140737488351232 := by decide
   refine ⟨l, h, reach_len hl (by decide +kernel), hq, ?_⟩
   rw [h48, hrb] at hl
   exact hl
end Go.Proofs.YthldjgjpokjliaaDoor
/- Schedules: what the closings share: the listed tables. Conditions: none. -/
namespace Go.Proofs.YthldjgjpokjliaaDoor
open Go.Avc
def kInts : List Int := deBruijnT.map fun n : Nat => (n : Int)
theorem kLaid : Rows.laid_math_bits_deBruijn64tab = (.agg (kInts.map fun m => .lit (.int .u8 m)) : DataW Unit) := rfl
theorem door_met (os : Os) (args : Array Value) : laidMetH Tryd.prog [("math/bits.deBruijn32tab", Rows.laid_math_bits_deBruijn32tab), ("math/bits.deBruijn64tab", Rows.laid_math_bits_deBruijn64tab)] ((World.doorLaid Tryd.prog 400 os).forCall (fun _ _ => 0) ⟨#[], args, []⟩).memory :=
 laidMetH_of_parts3 (fuel := 8) (laidMet_of_run' 8 (by kernel_rfl) (by kernel_rfl)) (by kernel_rfl) (by kernel_rfl)
theorem kGlob (W : World) (h : laidMetH Tryd.prog [("math/bits.deBruijn32tab", Rows.laid_math_bits_deBruijn32tab), ("math/bits.deBruijn64tab", Rows.laid_math_bits_deBruijn64tab)] W) : GlobOK Tryd.prog W (fun _ => False) :=
 globOK_one (g := 0) (by kernel_rfl) (rows := kInts.map fun m => [.val (.int .u8 m)]) (by kernel_rfl)
   (par_of_laid (n := "math/bits.deBruijn64tab") (ns := kInts) (k := .u8) (by kernel_rfl) h (by rw [← kLaid]; exact List.mem_cons_of_mem _ (List.mem_singleton.2 rfl)) (by kernel_rfl) (t := 79) (by kernel_rfl) (e := 5) (by kernel_rfl) (by kernel_rfl) (by kernel_rfl))
end Go.Proofs.YthldjgjpokjliaaDoor
