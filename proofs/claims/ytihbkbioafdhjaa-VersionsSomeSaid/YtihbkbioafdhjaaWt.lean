/- Versions: how the arguments of the laws open. Conditions: none. -/
import Derived.Test.YtihbkbioafdhjaaWd
import Derived.Test.YtihbkbioafdhjaaWj
import Derived.KernelRfl
set_option linter.unusedSimpArgs false
set_option linter.unusedVariables false
set_option maxRecDepth 20000
set_option maxHeartbeats 4000000
namespace Go.Proofs.Ytihbkbioafdhjaa
open Go.Avc
theorem own : ownKnob Try.prog.godebug = none := by kernel_rfl
theorem laidOut : laidOutB Try.prog = true := by kernel_rfl
theorem op_int : Opn Try.prog 3 (fun ps => ∃ n : Int, ps = [.int n]) := (Opn.int Try.underlying3).mono fun _ ⟨n, h, _⟩ => ⟨n, h⟩
theorem has_i64 {n : Int} (h : IntKind.i64.has n) : -9223372036854775808 ≤ n ∧ n ≤ 9223372036854775807 := by
 have e1 : IntKind.i64.min = -9223372036854775808 := by decide +kernel
 have e2 : IntKind.i64.max = 9223372036854775807 := by decide +kernel
 unfold IntKind.has at h
 rw [e1, e2] at h
 exact h
theorem has_u64 {n : Int} (h : IntKind.u64.has n) : 0 ≤ n ∧ n ≤ 18446744073709551615 := by
 have e1 : IntKind.u64.min = 0 := by decide +kernel
 have e2 : IntKind.u64.max = 18446744073709551615 := by decide +kernel
 unfold IntKind.has at h
 rw [e1, e2] at h
 exact h
theorem op_intR : Opn Try.prog 3 (fun ps => ∃ n : Int, ps = [.int n] ∧ (-9223372036854775808 ≤ n ∧ n ≤ 9223372036854775807)) := (Opn.int Try.underlying3).mono fun _ ⟨n, h, hr⟩ => ⟨n, h, has_i64 hr⟩
theorem op_uint : Opn Try.prog 46 (fun ps => ∃ n : Nat, ps = [.val (.int .u64 n)] ∧ n < 18446744073709551616) := (Opn.int Try.underlying46).mono fun _ ⟨n, h, hr⟩ => ⟨n.toNat, by rw [h, Int.toNat_of_nonneg (has_u64 hr).1], by have := has_u64 hr; omega⟩
theorem op_str : Opn Try.prog 9 (fun ps => ∃ s : Bs, ps = [PV.str s]) := (Opn.string Try.underlying9).mono fun _ ⟨s, h, _⟩ => ⟨s, h⟩
theorem reach_len {n m : Nat} (h : n * m ≤ reachBytes) (hm : 0 < m) : n ≤ 140737488355328 := by
 have h1 : n * 1 ≤ n * m := Nat.mul_le_mul_left n hm
 have h2 : reachBytes ≤ 140737488355328 := by decide
 omega
theorem op_strs : Opn Try.prog 22 (fun ps => ∃ l : List Bs, ps = [encSs l] ∧ l.length ≤ 140737488355328) :=
 (Opn.slice (n := 1) Try.underlying22 (by kernel_rfl) (by omega) op_str).mono fun _ ⟨rows, h, hr, hl⟩ => by
   obtain ⟨l, rfl, hq⟩ := rows_map (f := fun s => [PV.str s]) (R := fun _ => True) (fun r h => by obtain ⟨b, hb⟩ := hr r h; exact ⟨b, hb, trivial⟩)
   rw [List.length_map] at hl
   exact ⟨l, h, reach_len hl (by decide +kernel)⟩
theorem op_ints : Opn Try.prog 30 (fun ps => ∃ l : List Int, ps = [encIs l] ∧ l.length ≤ 140737488355328) :=
 (Opn.slice (n := 1) Try.underlying30 (by kernel_rfl) (by omega) op_int).mono fun _ ⟨rows, h, hr, hl⟩ => by
   obtain ⟨l, rfl, hq⟩ := rows_map (f := fun x => [PV.int x]) (R := fun _ => True) (fun r h => by obtain ⟨b, hb⟩ := hr r h; exact ⟨b, hb, trivial⟩)
   rw [List.length_map] at hl
   exact ⟨l, h, reach_len hl (by decide +kernel)⟩
theorem op_un : Opn Try.prog 153 (fun ps => ∃ x : Un, ps = encUn x) :=
 (Opn.struct (Qs := [_, _, _, _, _]) Try.underlying153 (by kernel_rfl) (fun fuel => ⟨op_str fuel, op_str fuel, op_int fuel, op_int fuel, op_int fuel, trivial⟩)).mono fun _ h => by
   obtain ⟨_, ⟨a, rfl⟩, _, ⟨_, ⟨b, rfl⟩, _, ⟨_, ⟨c, rfl⟩, _, ⟨_, ⟨d, rfl⟩, _, ⟨_, ⟨e, rfl⟩, _, rfl, rfl⟩, rfl⟩, rfl⟩, rfl⟩, rfl⟩ := h
   exact ⟨⟨a, b, c, d, e⟩, rfl⟩
theorem op_uns : Opn Try.prog 23 (fun ps => ∃ l : List Un, ps = [.sl 5 (l.map encUn)] ∧ l.length ≤ 140737488355328) :=
 (Opn.slice (n := 5) Try.underlying23 (by kernel_rfl) (by omega) op_un).mono fun _ ⟨rows, h, hr, hl⟩ => by
   obtain ⟨l, rfl, hq⟩ := rows_map (f := encUn) (R := fun _ => True) (fun r h => by obtain ⟨b, hb⟩ := hr r h; exact ⟨b, hb, trivial⟩)
   rw [List.length_map] at hl
   exact ⟨l, h, reach_len hl (by decide +kernel)⟩
theorem op_ty : Opn Try.prog 80 (fun ps => ∃ x : Ty, ps = encTy x ∧ x.names.length ≤ 140737488355328) :=
 (Opn.struct (Qs := [_, _, _, _, _, _]) Try.underlying80 (by kernel_rfl) (fun fuel => ⟨op_int fuel, op_int fuel, op_int fuel, op_str fuel, op_int fuel, op_strs fuel, trivial⟩)).mono fun _ h => by
   obtain ⟨_, ⟨a, rfl⟩, _, ⟨_, ⟨b, rfl⟩, _, ⟨_, ⟨c, rfl⟩, _, ⟨_, ⟨d, rfl⟩, _, ⟨_, ⟨e, rfl⟩, _, ⟨_, ⟨f, rfl, hf⟩, _, rfl, rfl⟩, rfl⟩, rfl⟩, rfl⟩, rfl⟩, rfl⟩ := h
   exact ⟨⟨a, b, c, d, e, f⟩, rfl, hf⟩
theorem op_w4 : Opn Try.prog 84 (fun ps => ∃ a b c d : Int, ps = [.int a, .int b, .int c, .int d]) :=
 (Opn.array (n := 4) Try.underlying84 (by kernel_rfl) op_int).mono fun _ ⟨parts, h, hl, hr⟩ => by
   match parts, hl with
   | [x, y, z, u], _ =>
     obtain ⟨a, rfl⟩ := hr x (by simp)
     obtain ⟨b, rfl⟩ := hr y (by simp)
     obtain ⟨c, rfl⟩ := hr z (by simp)
     obtain ⟨d, rfl⟩ := hr u (by simp)
     exact ⟨a, b, c, d, h⟩
theorem op_fd : Opn Try.prog 86 (fun ps => ∃ x : Fd, ps = encFd x ∧ x.ty.names.length ≤ 140737488355328) :=
 (Opn.struct (Qs := [_, _, _]) Try.underlying86 (by kernel_rfl) (fun fuel => ⟨op_str fuel, op_ty fuel, op_w4 fuel, trivial⟩)).mono fun _ h => by
   obtain ⟨_, ⟨a, rfl⟩, _, ⟨_, ⟨y, rfl, hy⟩, _, ⟨_, ⟨b, c, d, e, rfl⟩, _, rfl, rfl⟩, rfl⟩, rfl⟩ := h
   exact ⟨⟨a, y, b, c, d, e⟩, rfl, hy⟩
theorem op_fds : Opn Try.prog 55 (fun ps => ∃ l : List Fd, ps = [.sl 11 (l.map encFd)] ∧ l.length ≤ 140737488355328 ∧ ∀ x ∈ l, x.ty.names.length ≤ 140737488355328) :=
 (Opn.slice (n := 11) Try.underlying55 (by kernel_rfl) (by omega) op_fd).mono fun _ ⟨rows, h, hr, hl⟩ => by
   obtain ⟨l, rfl, hq⟩ := rows_map (f := encFd) (R := fun x => x.ty.names.length ≤ 140737488355328) (fun r h => by obtain ⟨b, hb, hc⟩ := hr r h; exact ⟨b, hb, hc⟩)
   rw [List.length_map] at hl
   exact ⟨l, h, reach_len hl (by decide +kernel), hq⟩
theorem op_dp : Opn Try.prog 163 (fun ps => ∃ x : Dp, ps = encDp x ∧ (x.names.length ≤ 140737488355328 ∧ x.from_.length ≤ 140737488355328)) :=
 (Opn.struct (Qs := [_, _, _, _]) Try.underlying163 (by kernel_rfl) (fun fuel => ⟨op_strs fuel, op_str fuel, op_ints fuel, op_int fuel, trivial⟩)).mono fun _ h => by
   obtain ⟨_, ⟨a, rfl, ha⟩, _, ⟨_, ⟨b, rfl⟩, _, ⟨_, ⟨c, rfl, hc⟩, _, ⟨_, ⟨d, rfl⟩, _, rfl, rfl⟩, rfl⟩, rfl⟩, rfl⟩ := h
   exact ⟨⟨a, b, c, d⟩, rfl, ⟨ha, hc⟩⟩
theorem op_dps : Opn Try.prog 56 (fun ps => ∃ l : List Dp, ps = [.sl 4 (l.map encDp)] ∧ l.length ≤ 140737488355328 ∧ ∀ x ∈ l, (x.names.length ≤ 140737488355328 ∧ x.from_.length ≤ 140737488355328)) :=
 (Opn.slice (n := 4) Try.underlying56 (by kernel_rfl) (by omega) op_dp).mono fun _ ⟨rows, h, hr, hl⟩ => by
   obtain ⟨l, rfl, hq⟩ := rows_map (f := encDp) (R := fun x => (x.names.length ≤ 140737488355328 ∧ x.from_.length ≤ 140737488355328)) (fun r h => by obtain ⟨b, hb, hc⟩ := hr r h; exact ⟨b, hb, hc⟩)
   rw [List.length_map] at hl
   exact ⟨l, h, reach_len hl (by decide +kernel), hq⟩
theorem op_sc : Opn Try.prog 58 (fun ps => ∃ x : Sc, ps = encSc x ∧ x.sz) :=
 (Opn.struct (Qs := [_, _, _, _, _, _]) Try.underlying58 (by kernel_rfl) (fun fuel => ⟨op_str fuel, op_str fuel, op_int fuel, op_int fuel, op_fds fuel, op_dps fuel, trivial⟩)).mono fun _ h => by
   obtain ⟨_, ⟨a, rfl⟩, _, ⟨_, ⟨b, rfl⟩, _, ⟨_, ⟨c, rfl⟩, _, ⟨_, ⟨d, rfl⟩, _, ⟨_, ⟨e, rfl, he, he2⟩, _, ⟨_, ⟨f, rfl, hf, hf2⟩, _, rfl, rfl⟩, rfl⟩, rfl⟩, rfl⟩, rfl⟩, rfl⟩ := h
   exact ⟨⟨a, b, c, d, e, f⟩, rfl, ⟨he, hf, he2, hf2⟩⟩
theorem op_scs : Opn Try.prog 24 (fun ps => ∃ l : List Sc, ps = [.sl 6 (l.map encSc)] ∧ l.length ≤ 140737488355328 ∧ ∀ x ∈ l, x.sz) :=
 (Opn.slice (n := 6) Try.underlying24 (by kernel_rfl) (by omega) op_sc).mono fun _ ⟨rows, h, hr, hl⟩ => by
   obtain ⟨l, rfl, hq⟩ := rows_map (f := encSc) (R := fun x => x.sz) (fun r h => by obtain ⟨b, hb, hc⟩ := hr r h; exact ⟨b, hb, hc⟩)
   rw [List.length_map] at hl
   exact ⟨l, h, reach_len hl (by decide +kernel), hq⟩
theorem op_tm : Opn Try.prog 166 (fun ps => ∃ x : Tm, ps = encTm x) :=
 (Opn.struct (Qs := [_, _, _, _, _]) Try.underlying166 (by kernel_rfl) (fun fuel => ⟨op_str fuel, op_str fuel, op_int fuel, op_int fuel, op_int fuel, trivial⟩)).mono fun _ h => by
   obtain ⟨_, ⟨a, rfl⟩, _, ⟨_, ⟨b, rfl⟩, _, ⟨_, ⟨c, rfl⟩, _, ⟨_, ⟨d, rfl⟩, _, ⟨_, ⟨e, rfl⟩, _, rfl, rfl⟩, rfl⟩, rfl⟩, rfl⟩, rfl⟩ := h
   exact ⟨⟨a, b, c, d, e⟩, rfl⟩
theorem op_at : Opn Try.prog 170 (fun ps => ∃ x : At, ps = encAt x) :=
 (Opn.struct (Qs := [_, _, _]) Try.underlying170 (by kernel_rfl) (fun fuel => ⟨op_int fuel, op_tm fuel, op_tm fuel, trivial⟩)).mono fun _ h => by
   obtain ⟨_, ⟨a, rfl⟩, _, ⟨_, ⟨b, rfl⟩, _, ⟨_, ⟨c, rfl⟩, _, rfl, rfl⟩, rfl⟩, rfl⟩ := h
   exact ⟨⟨a, b, c⟩, rfl⟩
theorem op_ats : Opn Try.prog 155 (fun ps => ∃ l : List At, ps = [.sl 11 (l.map encAt)] ∧ l.length ≤ 140737488355328) :=
 (Opn.slice (n := 11) Try.underlying155 (by kernel_rfl) (by omega) op_at).mono fun _ ⟨rows, h, hr, hl⟩ => by
   obtain ⟨l, rfl, hq⟩ := rows_map (f := encAt) (R := fun _ => True) (fun r h => by obtain ⟨b, hb⟩ := hr r h; exact ⟨b, hb, trivial⟩)
   rw [List.length_map] at hl
   exact ⟨l, h, reach_len hl (by decide +kernel)⟩
theorem op_fr : Opn Try.prog 168 (fun ps => ∃ x : Fr, ps = encFr x) :=
 (Opn.struct (Qs := [_, _, _, _]) Try.underlying168 (by kernel_rfl) (fun fuel => ⟨op_str fuel, op_str fuel, op_int fuel, op_tm fuel, trivial⟩)).mono fun _ h => by
   obtain ⟨_, ⟨a, rfl⟩, _, ⟨_, ⟨b, rfl⟩, _, ⟨_, ⟨c, rfl⟩, _, ⟨_, ⟨d, rfl⟩, _, rfl, rfl⟩, rfl⟩, rfl⟩, rfl⟩ := h
   exact ⟨⟨a, b, c, d⟩, rfl⟩
theorem op_frs : Opn Try.prog 154 (fun ps => ∃ l : List Fr, ps = [.sl 8 (l.map encFr)] ∧ l.length ≤ 140737488355328) :=
 (Opn.slice (n := 8) Try.underlying154 (by kernel_rfl) (by omega) op_fr).mono fun _ ⟨rows, h, hr, hl⟩ => by
   obtain ⟨l, rfl, hq⟩ := rows_map (f := encFr) (R := fun _ => True) (fun r h => by obtain ⟨b, hb⟩ := hr r h; exact ⟨b, hb, trivial⟩)
   rw [List.length_map] at hl
   exact ⟨l, h, reach_len hl (by decide +kernel)⟩
theorem op_se : Opn Try.prog 172 (fun ps => ∃ x : Se, ps = encSe x) :=
 (Opn.struct (Qs := [_, _, _]) Try.underlying172 (by kernel_rfl) (fun fuel => ⟨op_str fuel, op_int fuel, op_tm fuel, trivial⟩)).mono fun _ h => by
   obtain ⟨_, ⟨a, rfl⟩, _, ⟨_, ⟨b, rfl⟩, _, ⟨_, ⟨c, rfl⟩, _, rfl, rfl⟩, rfl⟩, rfl⟩ := h
   exact ⟨⟨a, b, c⟩, rfl⟩
theorem op_ses : Opn Try.prog 156 (fun ps => ∃ l : List Se, ps = [.sl 7 (l.map encSe)] ∧ l.length ≤ 140737488355328) :=
 (Opn.slice (n := 7) Try.underlying156 (by kernel_rfl) (by omega) op_se).mono fun _ ⟨rows, h, hr, hl⟩ => by
   obtain ⟨l, rfl, hq⟩ := rows_map (f := encSe) (R := fun _ => True) (fun r h => by obtain ⟨b, hb⟩ := hr r h; exact ⟨b, hb, trivial⟩)
   rw [List.length_map] at hl
   exact ⟨l, h, reach_len hl (by decide +kernel)⟩
theorem op_ru : Opn Try.prog 158 (fun ps => ∃ x : Ru, ps = encRu x ∧ x.sz) :=
 (Opn.struct (Qs := [_, _, _, _, _]) Try.underlying158 (by kernel_rfl) (fun fuel => ⟨op_str fuel, op_int fuel, op_frs fuel, op_ats fuel, op_ses fuel, trivial⟩)).mono fun _ h => by
   obtain ⟨_, ⟨a, rfl⟩, _, ⟨_, ⟨b, rfl⟩, _, ⟨_, ⟨c, rfl, hc⟩, _, ⟨_, ⟨d, rfl, hd⟩, _, ⟨_, ⟨e, rfl, he⟩, _, rfl, rfl⟩, rfl⟩, rfl⟩, rfl⟩, rfl⟩ := h
   exact ⟨⟨a, b, c, d, e⟩, rfl, ⟨hc, hd, he⟩⟩
theorem op_rus : Opn Try.prog 25 (fun ps => ∃ l : List Ru, ps = [.sl 5 (l.map encRu)] ∧ l.length ≤ 140737488355328 ∧ ∀ x ∈ l, x.sz) :=
 (Opn.slice (n := 5) Try.underlying25 (by kernel_rfl) (by omega) op_ru).mono fun _ ⟨rows, h, hr, hl⟩ => by
   obtain ⟨l, rfl, hq⟩ := rows_map (f := encRu) (R := fun x => x.sz) (fun r h => by obtain ⟨b, hb, hc⟩ := hr r h; exact ⟨b, hb, hc⟩)
   rw [List.length_map] at hl
   exact ⟨l, h, reach_len hl (by decide +kernel), hq⟩
theorem op_mv : Opn Try.prog 51 (fun ps => ∃ x : Mv, ps = encMv x ∧ (-9223372036854775808 ≤ x.shift ∧ x.shift ≤ 9223372036854775807)) :=
 (Opn.struct (Qs := [_, _, _, _, _]) Try.underlying51 (by kernel_rfl) (fun fuel => ⟨op_str fuel, op_str fuel, op_int fuel, op_int fuel, op_intR fuel, trivial⟩)).mono fun _ h => by
   obtain ⟨_, ⟨a, rfl⟩, _, ⟨_, ⟨b, rfl⟩, _, ⟨_, ⟨c, rfl⟩, _, ⟨_, ⟨d, rfl⟩, _, ⟨_, ⟨e, rfl, he⟩, _, rfl, rfl⟩, rfl⟩, rfl⟩, rfl⟩, rfl⟩ := h
   exact ⟨⟨a, b, c, d, e⟩, rfl, he⟩
theorem op_mvs : Opn Try.prog 47 (fun ps => ∃ l : List Mv, ps = [.sl 5 (l.map encMv)] ∧ l.length ≤ 140737488355328 ∧ ∀ x ∈ l, (-9223372036854775808 ≤ x.shift ∧ x.shift ≤ 9223372036854775807)) :=
 (Opn.slice (n := 5) Try.underlying47 (by kernel_rfl) (by omega) op_mv).mono fun _ ⟨rows, h, hr, hl⟩ => by
   obtain ⟨l, rfl, hq⟩ := rows_map (f := encMv) (R := fun x => (-9223372036854775808 ≤ x.shift ∧ x.shift ≤ 9223372036854775807)) (fun r h => by obtain ⟨b, hb, hc⟩ := hr r h; exact ⟨b, hb, hc⟩)
   rw [List.length_map] at hl
   exact ⟨l, h, reach_len hl (by decide +kernel), hq⟩
theorem op_cv : Opn Try.prog 49 (fun ps => ∃ x : Cv, ps = encCv x ∧ (x.moves.length ≤ 140737488355328 ∧ x.rg)) :=
 (Opn.struct (Qs := [_, _, _, _, _]) Try.underlying49 (by kernel_rfl) (fun fuel => ⟨op_str fuel, op_str fuel, op_int fuel, op_int fuel, op_mvs fuel, trivial⟩)).mono fun _ h => by
   obtain ⟨_, ⟨a, rfl⟩, _, ⟨_, ⟨b, rfl⟩, _, ⟨_, ⟨c, rfl⟩, _, ⟨_, ⟨d, rfl⟩, _, ⟨_, ⟨e, rfl, he, he2⟩, _, rfl, rfl⟩, rfl⟩, rfl⟩, rfl⟩, rfl⟩ := h
   exact ⟨⟨a, b, c, d, e⟩, rfl, ⟨he, ⟨he2⟩⟩⟩
theorem op_cvs : Opn Try.prog 26 (fun ps => ∃ l : List Cv, ps = [.sl 5 (l.map encCv)] ∧ l.length ≤ 140737488355328 ∧ ∀ x ∈ l, (x.moves.length ≤ 140737488355328 ∧ x.rg)) :=
 (Opn.slice (n := 5) Try.underlying26 (by kernel_rfl) (by omega) op_cv).mono fun _ ⟨rows, h, hr, hl⟩ => by
   obtain ⟨l, rfl, hq⟩ := rows_map (f := encCv) (R := fun x => (x.moves.length ≤ 140737488355328 ∧ x.rg)) (fun r h => by obtain ⟨b, hb, hc⟩ := hr r h; exact ⟨b, hb, hc⟩)
   rw [List.length_map] at hl
   exact ⟨l, h, reach_len hl (by decide +kernel), hq⟩
theorem op_rf : Opn Try.prog 174 (fun ps => ∃ x : Rf, ps = encRf x) :=
 (Opn.struct (Qs := [_, _, _, _]) Try.underlying174 (by kernel_rfl) (fun fuel => ⟨op_str fuel, op_str fuel, op_int fuel, op_int fuel, trivial⟩)).mono fun _ h => by
   obtain ⟨_, ⟨a, rfl⟩, _, ⟨_, ⟨b, rfl⟩, _, ⟨_, ⟨c, rfl⟩, _, ⟨_, ⟨d, rfl⟩, _, rfl, rfl⟩, rfl⟩, rfl⟩, rfl⟩ := h
   exact ⟨⟨a, b, c, d⟩, rfl⟩
theorem op_rfs : Opn Try.prog 159 (fun ps => ∃ l : List Rf, ps = [.sl 4 (l.map encRf)] ∧ l.length ≤ 140737488355328) :=
 (Opn.slice (n := 4) Try.underlying159 (by kernel_rfl) (by omega) op_rf).mono fun _ ⟨rows, h, hr, hl⟩ => by
   obtain ⟨l, rfl, hq⟩ := rows_map (f := encRf) (R := fun _ => True) (fun r h => by obtain ⟨b, hb⟩ := hr r h; exact ⟨b, hb, trivial⟩)
   rw [List.length_map] at hl
   exact ⟨l, h, reach_len hl (by decide +kernel)⟩
theorem op_pp : Opn Try.prog 161 (fun ps => ∃ x : Pp, ps = encPp x ∧ x.may.length ≤ 140737488355328) :=
 (Opn.struct (Qs := [_, _, _]) Try.underlying161 (by kernel_rfl) (fun fuel => ⟨op_str fuel, op_rfs fuel, op_int fuel, trivial⟩)).mono fun _ h => by
   obtain ⟨_, ⟨a, rfl⟩, _, ⟨_, ⟨b, rfl, hb⟩, _, ⟨_, ⟨c, rfl⟩, _, rfl, rfl⟩, rfl⟩, rfl⟩ := h
   exact ⟨⟨a, b, c⟩, rfl, hb⟩
theorem op_pps : Opn Try.prog 27 (fun ps => ∃ l : List Pp, ps = [.sl 3 (l.map encPp)] ∧ l.length ≤ 140737488355328 ∧ ∀ x ∈ l, x.may.length ≤ 140737488355328) :=
 (Opn.slice (n := 3) Try.underlying27 (by kernel_rfl) (by omega) op_pp).mono fun _ ⟨rows, h, hr, hl⟩ => by
   obtain ⟨l, rfl, hq⟩ := rows_map (f := encPp) (R := fun x => x.may.length ≤ 140737488355328) (fun r h => by obtain ⟨b, hb, hc⟩ := hr r h; exact ⟨b, hb, hc⟩)
   rw [List.length_map] at hl
   exact ⟨l, h, reach_len hl (by decide +kernel), hq⟩
theorem op_src : Opn Try.prog 29 (fun ps => ∃ x : Src, ps = encSrc x ∧ (x.sz ∧ x.rg)) :=
 (Opn.struct (Qs := [_, _, _, _, _, _]) Try.underlying29 (by kernel_rfl) (fun fuel => ⟨op_strs fuel, op_uns fuel, op_scs fuel, op_rus fuel, op_cvs fuel, op_pps fuel, trivial⟩)).mono fun _ h => by
   obtain ⟨_, ⟨a, rfl, ha⟩, _, ⟨_, ⟨b, rfl, hb⟩, _, ⟨_, ⟨c, rfl, hc, hc2⟩, _, ⟨_, ⟨d, rfl, hd, hd2⟩, _, ⟨_, ⟨e, rfl, he, he2⟩, _, ⟨_, ⟨f, rfl, hf, hf2⟩, _, rfl, rfl⟩, rfl⟩, rfl⟩, rfl⟩, rfl⟩, rfl⟩ := h
   exact ⟨⟨a, b, c, d, e, f⟩, rfl, ⟨⟨ha, hb, hc, hd, he, hf, hc2, hd2, fun c hc => (he2 c hc).1, hf2⟩, fun c hc => (he2 c hc).2⟩⟩
theorem op_cl : Opn Try.prog 32 (fun ps => ∃ x : Cl, ps = encCl x ∧ (x.fields.length ≤ 140737488355328 ∧ x.values.length ≤ 140737488355328)) :=
 (Opn.struct (Qs := [_, _, _]) Try.underlying32 (by kernel_rfl) (fun fuel => ⟨op_int fuel, op_ints fuel, op_ints fuel, trivial⟩)).mono fun _ h => by
   obtain ⟨_, ⟨a, rfl⟩, _, ⟨_, ⟨b, rfl, hb⟩, _, ⟨_, ⟨d, rfl, hd⟩, _, rfl, rfl⟩, rfl⟩, rfl⟩ := h
   exact ⟨⟨a, b, d⟩, rfl, ⟨hb, hd⟩⟩
end Go.Proofs.Ytihbkbioafdhjaa
