/- Disks: how the arguments of the laws open. Conditions: none. -/
import Derived.Test.YtmkkfgifeekgeaaVcLaw
import Derived.Test.YtmkkfgifeekgeaaVkH
namespace Go.Proofs.Ytmkkfgifeekgeaa
open Go.Avc
theorem own : ownKnob Try.prog.godebug = none := by kernel_rfl
theorem laidOut : laidOutB Try.prog = true := by kernel_rfl
theorem byte_of {n : Int} (h : IntKind.u8.has n) : ∃ b : UInt8, n = b.toNat := by
  have h1 : (0 : Int) ≤ n := h.1
  have h2 : n ≤ 255 := h.2
  refine ⟨UInt8.ofNat n.toNat, ?_⟩
  rw [UInt8.toNat_ofNat_of_lt' (by show n.toNat < 256; omega)]
  omega
theorem bytesOf5 : Try.prog.bytesOf 5 = 1 := by kernel_rfl
theorem op_byte : Opn Try.prog 5 (fun ps => ∃ b : UInt8, ps = [.val (.int .u8 b.toNat)]) := (Opn.int Try.underlying5).mono fun _ ⟨_, h, hn⟩ => by
  obtain ⟨b, rfl⟩ := byte_of hn
  exact ⟨b, h⟩
theorem op_bytes : Opn Try.prog 35 (fun ps => ∃ bs : List UInt8, ps = [encB bs] ∧ bs.length ≤ 140737488355328) :=
  (Opn.slice (n := 1) Try.underlying35 (by kernel_rfl) Nat.one_pos op_byte).mono fun _ ⟨rows, h, hr, hl⟩ => by
    obtain ⟨bs, rfl, _⟩ := rows_map (f := fun b : UInt8 => [PV.val (.int .u8 b.toNat)]) (R := fun _ => True) (fun r h => by obtain ⟨b, hb⟩ := hr r h; exact ⟨b, hb, trivial⟩)
    rw [bytesOf5, Nat.mul_one, List.length_map] at hl
    exact ⟨bs, h, Nat.le_trans hl (by decide)⟩
theorem op_sectors : Opn Try.prog 22 (fun ps => ∃ ss : List (List UInt8), ps = [encS ss] ∧ ∀ s ∈ ss, s.length ≤ 140737488355328) :=
  (Opn.slice (n := 1) Try.underlying22 (by kernel_rfl) Nat.one_pos op_bytes).mono fun _ ⟨rows, h, hr, _⟩ => by
    obtain ⟨ss, rfl, hs⟩ := rows_map (f := fun s => [encB s]) (R := fun s => s.length ≤ 140737488355328) (fun r h => hr r h)
    exact ⟨ss, h, hs⟩
theorem op_int : Opn Try.prog 3 (fun ps => ∃ n : Int, ps = [.int n]) := (Opn.int Try.underlying3).mono fun _ ⟨n, h, _⟩ => ⟨n, h⟩
theorem op_write : Opn Try.prog 54 (fun ps => ∃ w : Int × List UInt8, ps = encW w ∧ w.2.length ≤ 140737488355328) :=
  (Opn.struct (Qs := [_, _]) Try.underlying54 (by kernel_rfl) (fun fuel => ⟨op_int fuel, op_bytes fuel, trivial⟩)).mono fun _ h => by
    obtain ⟨_, ⟨n, rfl⟩, _, ⟨_, ⟨bs, rfl, hb⟩, _, rfl, rfl⟩, rfl⟩ := h
    exact ⟨(n, bs), rfl, hb⟩
theorem op_writes : Opn Try.prog 23 (fun ps => ∃ ws : List (Int × List UInt8), ps = [encWs ws] ∧ ∀ w ∈ ws, w.2.length ≤ 140737488355328) :=
  (Opn.slice (n := 2) Try.underlying23 (by kernel_rfl) (by omega) op_write).mono fun _ ⟨rows, h, hr, _⟩ => by
    obtain ⟨ws, rfl, hs⟩ := rows_map (f := encW) (R := fun w => w.2.length ≤ 140737488355328) (fun r h => hr r h)
    exact ⟨ws, h, hs⟩
theorem op_disk : Opn Try.prog 25 (fun ps => ∃ d : Disk, ps = [encS d.sectors, encWs d.pending, .int d.left, .bool d.stopped] ∧ d.fits) :=
  (Opn.struct (Qs := [_, _, _, _]) Try.underlying25 (by kernel_rfl) (fun fuel => ⟨op_sectors fuel, op_writes fuel, op_int fuel, Opn.bool Try.underlying4 fuel, trivial⟩)).mono fun _ h => by
    obtain ⟨_, ⟨ss, rfl, hs⟩, _, ⟨_, ⟨ws, rfl, hws⟩, _, ⟨_, ⟨n, rfl⟩, _, ⟨_, ⟨b, rfl⟩, _, rfl, rfl⟩, rfl⟩, rfl⟩, rfl⟩ := h
    refine ⟨⟨ss, ws, n, b⟩, rfl, fun k hk => ?_⟩
    simp only [Disk.lens, List.mem_append, List.mem_map] at hk
    rcases hk with ⟨s, h, rfl⟩ | ⟨w, h, rfl⟩
    · exact hs s h
    · exact hws w h

end Go.Proofs.Ytmkkfgifeekgeaa
