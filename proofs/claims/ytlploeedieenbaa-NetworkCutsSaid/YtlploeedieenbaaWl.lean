/- Networks: how the arguments of the laws open. Conditions: none. -/
import Derived.Test.YtlploeedieenbaaWd
import Derived.Test.YtlploeedieenbaaWf
import Derived.Test.YtlploeedieenbaaWk
import Derived.KernelRfl
set_option linter.unusedSimpArgs false
set_option linter.unusedVariables false
namespace Go.Proofs.Ytlploeedieenbaa
open Go.Avc
theorem own : ownKnob Try.prog.godebug = none := by kernel_rfl
theorem laidOut : laidOutB Try.prog = true := by kernel_rfl
theorem byte_of {n : Int} (h : IntKind.u8.has n) : ∃ b : UInt8, n = b.toNat := by
  have h1 : (0 : Int) ≤ n := h.1
  have h2 : n ≤ 255 := h.2
  refine ⟨UInt8.ofNat n.toNat, ?_⟩
  rw [UInt8.toNat_ofNat_of_lt' (by show n.toNat < 256; omega)]
  omega
theorem op_byte : Opn Try.prog 5 (fun ps => ∃ b : UInt8, ps = [.val (.int .u8 b.toNat)]) := (Opn.int Try.underlying5).mono fun _ ⟨_, h, hn⟩ => by
  obtain ⟨b, rfl⟩ := byte_of hn
  exact ⟨b, h⟩
theorem op_bytes : Opn Try.prog 26 (fun ps => ∃ bs : List UInt8, ps = [encB bs]) :=
  (Opn.slice (n := 1) Try.underlying26 (by kernel_rfl) Nat.one_pos op_byte).mono fun _ ⟨rows, h, hr, hl⟩ => by
    obtain ⟨bs, rfl, _⟩ := rows_map (f := fun b : UInt8 => [PV.val (.int .u8 b.toNat)]) (R := fun _ => True) (fun r h => by obtain ⟨b, hb⟩ := hr r h; exact ⟨b, hb, trivial⟩)
    exact ⟨bs, h⟩
theorem op_int : Opn Try.prog 3 (fun ps => ∃ n : Int, ps = [.int n]) := (Opn.int Try.underlying3).mono fun _ ⟨n, h, _⟩ => ⟨n, h⟩
theorem op_uint : Opn Try.prog 52 (fun ps => ∃ m : Nat, ps = [.val (.int .u64 (m : Int))]) := (Opn.int Try.underlying52).mono fun _ ⟨n, h, hn⟩ => ⟨n.toNat, by
  have h1 : (0 : Int) ≤ n := hn.1
  rw [Int.toNat_of_nonneg h1]; exact h⟩
theorem op_bools : Opn Try.prog 4 (fun ps => ∃ b : Bool, ps = [.bool b]) := (Opn.bool Try.underlying4).mono fun _ ⟨b, h⟩ => ⟨b, h⟩
theorem op_pk : Opn Try.prog 28 (fun ps => ∃ p : Pk, ps = encPk p) :=
  (Opn.struct (Qs := [_, _, _]) Try.underlying28 (by kernel_rfl) (fun fuel => ⟨op_int fuel, op_int fuel, op_bytes fuel, trivial⟩)).mono fun _ h => by
    obtain ⟨_, ⟨a, rfl⟩, _, ⟨_, ⟨b, rfl⟩, _, ⟨_, ⟨c, rfl⟩, _, rfl, rfl⟩, rfl⟩, rfl⟩ := h
    exact ⟨⟨a, b, c⟩, rfl⟩
theorem op_q : Opn Try.prog 22 (fun ps => ∃ l : List Pk, ps = [encQ l]) :=
  (Opn.slice (n := 3) Try.underlying22 (by kernel_rfl) (by omega) op_pk).mono fun _ ⟨rows, h, hr, _⟩ => by
    obtain ⟨l, rfl, _⟩ := rows_map (f := encPk) (R := fun _ => True) (fun r h => by obtain ⟨b, hb⟩ := hr r h; exact ⟨b, hb, trivial⟩)
    exact ⟨l, h⟩
theorem op_p2 : Opn Try.prog 55 (fun ps => ∃ p : Int × Int, ps = encP2 p) :=
  (Opn.array (n := 2) Try.underlying55 (by kernel_rfl) op_int).mono fun _ ⟨parts, h, hl, hr⟩ => by
    match parts, hl with
    | [x, y], _ =>
      obtain ⟨a, rfl⟩ := hr x (by simp)
      obtain ⟨b, rfl⟩ := hr y (by simp)
      exact ⟨(a, b), h⟩
theorem op_a : Opn Try.prog 23 (fun ps => ∃ l : List (Int × Int), ps = [encA l]) :=
  (Opn.slice (n := 2) Try.underlying23 (by kernel_rfl) (by omega) op_p2).mono fun _ ⟨rows, h, hr, _⟩ => by
    obtain ⟨l, rfl, _⟩ := rows_map (f := encP2) (R := fun _ => True) (fun r h => by obtain ⟨b, hb⟩ := hr r h; exact ⟨b, hb, trivial⟩)
    exact ⟨l, h⟩
theorem op_net : Opn Try.prog 25 (fun ps => ∃ n : Nt, ps = [encQ n.queue, encA n.apart]) :=
  (Opn.struct (Qs := [_, _]) Try.underlying25 (by kernel_rfl) (fun fuel => ⟨op_q fuel, op_a fuel, trivial⟩)).mono fun _ h => by
    obtain ⟨_, ⟨a, rfl⟩, _, ⟨_, ⟨b, rfl⟩, _, rfl, rfl⟩, rfl⟩ := h
    exact ⟨⟨a, b⟩, rfl⟩
theorem op_mv : Opn Try.prog 49 (fun ps => ∃ m : Mv, ps = encMv m) :=
  (Opn.struct (Qs := [_, _, _, _, _]) Try.underlying49 (by kernel_rfl) (fun fuel => ⟨op_byte fuel, op_byte fuel, op_byte fuel, op_byte fuel, op_byte fuel, trivial⟩)).mono fun _ h => by
    obtain ⟨_, ⟨a, rfl⟩, _, ⟨_, ⟨b, rfl⟩, _, ⟨_, ⟨c, rfl⟩, _, ⟨_, ⟨d, rfl⟩, _, ⟨_, ⟨e, rfl⟩, _, rfl, rfl⟩, rfl⟩, rfl⟩, rfl⟩, rfl⟩ := h
    exact ⟨⟨a, b, c, d, e⟩, rfl⟩
theorem op_mvs : Opn Try.prog 45 (fun ps => ∃ l : List Mv, ps = [.sl 5 (l.map encMv)]) :=
  (Opn.slice (n := 5) Try.underlying45 (by kernel_rfl) (by omega) op_mv).mono fun _ ⟨rows, h, hr, _⟩ => by
    obtain ⟨l, rfl, _⟩ := rows_map (f := encMv) (R := fun _ => True) (fun r h => by obtain ⟨b, hb⟩ := hr r h; exact ⟨b, hb, trivial⟩)
    exact ⟨l, h⟩
end Go.Proofs.Ytlploeedieenbaa
