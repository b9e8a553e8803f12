/- Journals: how the arguments of the laws open, with their sizes. Conditions: none. -/
import Derived.Test.YtcgpikmaapallaaWd
import Derived.Test.YtcgpikmaapallaaWk
import Derived.KernelRfl
set_option linter.unusedSimpArgs false
set_option linter.unusedVariables false
set_option maxRecDepth 20000
set_option maxHeartbeats 4000000
namespace Go.Proofs.Ytcgpikmaapallaa
open Go.Avc
theorem own : ownKnob Try.prog.godebug = none := by kernel_rfl
theorem laidOut : laidOutB Try.prog = true := by kernel_rfl
theorem byte_of {n : Int} (h : IntKind.u8.has n) : ∃ b : UInt8, n = b.toNat := by
 have h1 : (0 : Int) ≤ n := h.1
 have h2 : n ≤ 255 := h.2
 refine ⟨UInt8.ofNat n.toNat, ?_⟩
 rw [UInt8.toNat_ofNat_of_lt' (by show n.toNat < 256; omega)]
 omega
theorem op_byte : Opn Try.prog 5 (fun ps => ∃ b : UInt8, ps = [.val (.int .u8 b.toNat)]) := (Opn.int Try.underlying5).mono fun _ ⟨_, h, hn⟩ => by
 obtain ⟨b, rfl⟩ := byte_of hn
 exact ⟨b, h⟩
theorem op_bytes : Opn Try.prog 35 (fun ps => ∃ bs : List UInt8, ps = [encB bs] ∧ bs.length ≤ 140737488355328) :=
 (Opn.slice (n := 1) Try.underlying35 (by kernel_rfl) Nat.one_pos op_byte).mono fun _ ⟨rows, h, hr, hl⟩ => by
   obtain ⟨bs, rfl, _⟩ := rows_map (f := fun b : UInt8 => [PV.val (.int .u8 b.toNat)]) (R := fun _ => True) (fun r h => by obtain ⟨b, hb⟩ := hr r h; exact ⟨b, hb, trivial⟩)
   have h1 : Try.prog.bytesOf 5 = 1 := by decide +kernel
   have h2 : reachBytes = 140737488351232 := by decide
   rw [List.length_map, h1, h2] at hl
   exact ⟨bs, h, by omega⟩
theorem op_sectors : Opn Try.prog 22 (fun ps => ∃ ss : List (List UInt8), ps = [encS ss] ∧ RecSz ss) :=
 (Opn.slice (n := 1) Try.underlying22 (by kernel_rfl) Nat.one_pos op_bytes).mono fun _ ⟨rows, h, hr, hl⟩ => by
   obtain ⟨ss, rfl, hs⟩ := rows_map (f := fun s => [encB s]) (R := fun s => s.length ≤ 140737488355328) (fun r h => by obtain ⟨b, hb, hc⟩ := hr r h; exact ⟨b, hb, hc⟩)
   have h1 : Try.prog.bytesOf 35 = 24 := by decide +kernel
   have h2 : reachBytes = 140737488351232 := by decide
   rw [List.length_map, h1, h2] at hl
   exact ⟨ss, h, hl, hs⟩
theorem op_int : Opn Try.prog 3 (fun ps => ∃ n : Int, ps = [.int n] ∧ IntKind.i64.has n) := Opn.int Try.underlying3
theorem op_write : Opn Try.prog 77 (fun ps => ∃ w : Int × List UInt8, ps = encW w) :=
 (Opn.struct (Qs := [_, _]) Try.underlying77 (by kernel_rfl) (fun fuel => ⟨op_int fuel, op_bytes fuel, trivial⟩)).mono fun _ h => by
   obtain ⟨_, ⟨n, rfl, _⟩, _, ⟨_, ⟨bs, rfl, _⟩, _, rfl, rfl⟩, rfl⟩ := h
   exact ⟨(n, bs), rfl⟩
theorem op_writes : Opn Try.prog 23 (fun ps => ∃ ws : List (Int × List UInt8), ps = [encWs ws]) :=
 (Opn.slice (n := 2) Try.underlying23 (by kernel_rfl) (by omega) op_write).mono fun _ ⟨rows, h, hr, _⟩ => by
   obtain ⟨ws, rfl, hs⟩ := rows_map (f := encW) (R := fun _ => True) (fun r h => by obtain ⟨b, hb⟩ := hr r h; exact ⟨b, hb, trivial⟩)
   exact ⟨ws, h⟩
theorem op_disk : Opn Try.prog 25 (fun ps => ∃ d : Disk, ps = [encS d.sectors, encWs d.pending, .int d.left, .bool d.stopped]) :=
 (Opn.struct (Qs := [_, _, _, _]) Try.underlying25 (by kernel_rfl) (fun fuel => ⟨op_sectors fuel, op_writes fuel, op_int fuel, Opn.bool Try.underlying4 fuel, trivial⟩)).mono fun _ h => by
   obtain ⟨_, ⟨ss, rfl, _⟩, _, ⟨_, ⟨ws, rfl⟩, _, ⟨_, ⟨n, rfl, _⟩, _, ⟨_, ⟨b, rfl⟩, _, rfl, rfl⟩, rfl⟩, rfl⟩, rfl⟩ := h
   exact ⟨⟨ss, ws, n, b⟩, rfl⟩
theorem op_jour : Opn Try.prog 29 (fun ps => ∃ j : Jour, ps = [encS j.records, .int j.many, .int j.synced] ∧ RecSz j.records ∧ IntKind.i64.has j.many) :=
 (Opn.struct (Qs := [_, _, _]) Try.underlying29 (by kernel_rfl) (fun fuel => ⟨op_sectors fuel, op_int fuel, op_int fuel, trivial⟩)).mono fun _ h => by
   obtain ⟨_, ⟨ss, rfl, hs⟩, _, ⟨_, ⟨n, rfl, hn⟩, _, ⟨_, ⟨m, rfl, _⟩, _, rfl, rfl⟩, rfl⟩, rfl⟩ := h
   exact ⟨⟨ss, n, m⟩, rfl, hs, hn⟩
theorem op_crash : Opn Try.prog 50 (fun ps => ∃ c : Crs, ps = encC c ∧ RecSz c.1) :=
 (Opn.struct (Qs := [_, _, _]) Try.underlying50 (by kernel_rfl) (fun fuel => ⟨op_sectors fuel, Opn.bool Try.underlying4 fuel, op_byte fuel, trivial⟩)).mono fun _ h => by
   obtain ⟨_, ⟨ss, rfl, hs⟩, _, ⟨_, ⟨b, rfl⟩, _, ⟨_, ⟨y, rfl⟩, _, rfl, rfl⟩, rfl⟩, rfl⟩ := h
   exact ⟨(ss, b, y), rfl, hs⟩
theorem op_script : Opn Try.prog 48 (fun ps => ∃ sc : List Crs, ps = [.sl 3 (sc.map encC)] ∧ ∀ c ∈ sc, RecSz c.1) :=
 (Opn.slice (n := 3) Try.underlying48 (by kernel_rfl) (by omega) op_crash).mono fun _ ⟨rows, h, hr, _⟩ => by
   obtain ⟨sc, rfl, hs⟩ := rows_map (f := encC) (R := fun c => RecSz c.1) (fun r h => by obtain ⟨b, hb, hc⟩ := hr r h; exact ⟨b, hb, hc⟩)
   exact ⟨sc, h, hs⟩
end Go.Proofs.Ytcgpikmaapallaa
