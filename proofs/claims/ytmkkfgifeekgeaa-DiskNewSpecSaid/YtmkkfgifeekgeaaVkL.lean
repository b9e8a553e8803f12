/- Disks: how the arguments of the laws open; the statement about New. Conditions: none. -/
import Derived.Test.YtmkkfgifeekgeaaVcLaw
import Derived.Test.YtmkkfgifeekgeaaVkK
namespace Go.Proofs.Ytmkkfgifeekgeaa
open Go.Avc
theorem own : ownKnob Try.prog.godebug = none := by kernel_rfl
theorem laidOut : laidOutB Try.prog = true := by kernel_rfl
theorem byte_of {n : Int} (h : IntKind.u8.has n) : ∃ b : UInt8, n = b.toNat := by
  have h1 : (0 : Int) ≤ n := h.1
  have h2 : n ≤ 255 := h.2
  refine ⟨UInt8.ofNat n.toNat, ?_⟩
  rw [UInt8.toNat_ofNat_of_lt' (by show n.toNat < 256; omega)]
  omega
theorem bytesOf5 : Try.prog.bytesOf 5 = 1 := by kernel_rfl
theorem op_byte : Opn Try.prog 5 (fun ps => ∃ b : UInt8, ps = [.val (.int .u8 b.toNat)]) := (Opn.int Try.underlying5).mono fun ps ⟨n, h, hn⟩ => by
  obtain ⟨b, rfl⟩ := byte_of hn
  exact ⟨b, h⟩
theorem op_bytes : Opn Try.prog 35 (fun ps => ∃ bs : List UInt8, ps = [encB bs] ∧ bs.length ≤ 140737488355328) :=
  (Opn.slice (n := 1) Try.underlying35 (by kernel_rfl) Nat.one_pos op_byte).mono fun ps ⟨rows, h, hr, hl⟩ => by
    obtain ⟨bs, rfl, _⟩ := rows_map (f := fun b : UInt8 => [PV.val (.int .u8 b.toNat)]) (R := fun _ => True) (fun r h => by obtain ⟨b, hb⟩ := hr r h; exact ⟨b, hb, trivial⟩)
    rw [bytesOf5, Nat.mul_one, List.length_map] at hl
    exact ⟨bs, h, Nat.le_trans hl (by decide)⟩
theorem op_sectors : Opn Try.prog 22 (fun ps => ∃ ss : List (List UInt8), ps = [encS ss] ∧ ∀ s ∈ ss, s.length ≤ 140737488355328) :=
  (Opn.slice (n := 1) Try.underlying22 (by kernel_rfl) Nat.one_pos op_bytes).mono fun ps ⟨rows, h, hr, _⟩ => by
    obtain ⟨ss, rfl, hs⟩ := rows_map (f := fun s => [encB s]) (R := fun s => s.length ≤ 140737488355328) (fun r h => hr r h)
    exact ⟨ss, h, hs⟩
theorem op_int : Opn Try.prog 3 (fun ps => ∃ n : Int, ps = [.int n]) := (Opn.int Try.underlying3).mono fun ps ⟨n, h, _⟩ => ⟨n, h⟩
theorem op_write : Opn Try.prog 54 (fun ps => ∃ w : Int × List UInt8, ps = encW w ∧ w.2.length ≤ 140737488355328) :=
  (Opn.struct (Qs := [_, _]) Try.underlying54 (by kernel_rfl) (fun fuel => ⟨op_int fuel, op_bytes fuel, trivial⟩)).mono fun ps h => by
    obtain ⟨_, ⟨n, rfl⟩, _, ⟨_, ⟨bs, rfl, hb⟩, _, rfl, rfl⟩, rfl⟩ := h
    exact ⟨(n, bs), rfl, hb⟩
theorem op_writes : Opn Try.prog 23 (fun ps => ∃ ws : List (Int × List UInt8), ps = [encWs ws] ∧ ∀ w ∈ ws, w.2.length ≤ 140737488355328) :=
  (Opn.slice (n := 2) Try.underlying23 (by kernel_rfl) (by omega) op_write).mono fun ps ⟨rows, h, hr, _⟩ => by
    obtain ⟨ws, rfl, hs⟩ := rows_map (f := encW) (R := fun w => w.2.length ≤ 140737488355328) (fun r h => hr r h)
    exact ⟨ws, h, hs⟩
theorem op_disk : Opn Try.prog 25 (fun ps => ∃ d : Disk, ps = [encS d.sectors, encWs d.pending, .int d.left, .bool d.stopped] ∧ d.fits) :=
  (Opn.struct (Qs := [_, _, _, _]) Try.underlying25 (by kernel_rfl) (fun fuel => ⟨op_sectors fuel, op_writes fuel, op_int fuel, Opn.bool Try.underlying4 fuel, trivial⟩)).mono fun ps h => by
    obtain ⟨_, ⟨ss, rfl, hs⟩, _, ⟨_, ⟨ws, rfl, hws⟩, _, ⟨_, ⟨n, rfl⟩, _, ⟨_, ⟨b, rfl⟩, _, rfl, rfl⟩, rfl⟩, rfl⟩, rfl⟩ := h
    refine ⟨⟨ss, ws, n, b⟩, rfl, fun k hk => ?_⟩
    simp only [Disk.lens, List.mem_append, List.mem_map] at hk
    rcases hk with ⟨s, h, rfl⟩ | ⟨w, h, rfl⟩
    · exact hs s h
    · exact hws w h

theorem newSpec_lifted (os : Os) (started : os.Started) (H : Type) (enc : TypeId × Value → H) :
    ReturnsInHanded {} Try.checked os 3 .any (Rows.diskNewSpecSpec.pre6 enc Try.prog Try.f3 Rows.diskNewSpecRow.domain false) (Rows.diskNewSpecSpec.post enc Try.prog Try.f3 false true false false) := by
  refine law_lifted (C := Try.checked) (n := 2) own started (by kernel_rfl) Try.func3
    (ChangeSpec.witness6 (enc := enc) (C := Try.checked) false ⟨#[], #[.int .i64 0, .agg #[.slice none 0 0, .slice none 0 0, .int .i64 0, .bool false]], []⟩ 8 (by kernel_rfl) (by kernel_rfl) (by kernel_rfl) (by kernel_rfl))
    laidOut ⟨rfl, fun H ds hd => ?_⟩ rfl rfl Try.underlying4 (by kernel_rfl) (Qs := [_, _]) ⟨op_int, op_disk, trivial⟩ (gs := [false, true]) (by kernel_rfl) ?_
  · match ds, hd with
    | [d1, d2], _ => rfl
  · rintro _ ⟨n, rfl⟩ _ ⟨d, rfl, hd⟩
    exact newSpec_spec n d hd
theorem diskNewSpec_proved : Rows.DiskNewSpecSaid :=
  OpenClaim.holds_of_wide 3 Try.f3 rfl rfl rfl rfl rfl rfl rfl ⟨rfl, rfl, rfl, rfl, rfl⟩ rfl rfl rfl rfl rfl (by kernel_rfl) Try.func3 (by kernel_rfl)
    (of_decide_eq_true (by kernel_rfl)) (by unfold Func.isWrapper; first | (rw [if_pos (by decide +kernel)]; kernel_rfl) | (rw [if_neg (by decide +kernel)]; exact ⟨rfl, rfl⟩))
    (fun os started H enc _ => newSpec_lifted os started H enc)
#print axioms diskNewSpec_proved
end Go.Proofs.Ytmkkfgifeekgeaa
