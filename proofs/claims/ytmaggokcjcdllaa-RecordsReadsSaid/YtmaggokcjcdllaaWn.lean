/- Records: how the arguments of the laws open. Conditions: none. -/
import Derived.Test.YtmaggokcjcdllaaWd
import Derived.Test.YtmaggokcjcdllaaWi
import Derived.Test.YtmaggokcjcdllaaWj
import Derived.KernelRfl
set_option linter.unusedSimpArgs false
set_option linter.unusedVariables false
namespace Go.Proofs.Ytmaggokcjcdllaa
open Go.Avc
theorem own : ownKnob Try.prog.godebug = none := by kernel_rfl
theorem laidOut : laidOutB Try.prog = true := by kernel_rfl
theorem op_int : Opn Try.prog 3 (fun ps => ∃ n : Int, ps = [.int n]) := (Opn.int Try.underlying3).mono fun _ ⟨n, h, _⟩ => ⟨n, h⟩
theorem op_str : Opn Try.prog 9 (fun ps => ∃ s : Bs, ps = [PV.str s]) := (Opn.string Try.underlying9).mono fun _ ⟨s, h, _⟩ => ⟨s, h⟩
theorem reach_len {n m : Nat} (h : n * m ≤ reachBytes) (hm : 0 < m) : n ≤ 140737488355328 := by
  have h1 : n * 1 ≤ n * m := Nat.mul_le_mul_left n hm
  have h2 : reachBytes ≤ 140737488355328 := by decide
  omega
theorem op_strs : Opn Try.prog 22 (fun ps => ∃ l : List Bs, ps = [encSs l] ∧ l.length ≤ 140737488355328) :=
  (Opn.slice (n := 1) Try.underlying22 (by kernel_rfl) (by omega) op_str).mono fun _ ⟨rows, h, hr, hl⟩ => by
    obtain ⟨l, rfl, hq⟩ := rows_map (f := fun s => [PV.str s]) (R := fun _ => True) (fun r h => by obtain ⟨b, hb⟩ := hr r h; exact ⟨b, hb, trivial⟩)
    rw [List.length_map] at hl
    exact ⟨l, h, reach_len hl (by decide +kernel)⟩
theorem op_ints : Opn Try.prog 30 (fun ps => ∃ l : List Int, ps = [encIs l] ∧ l.length ≤ 140737488355328) :=
  (Opn.slice (n := 1) Try.underlying30 (by kernel_rfl) (by omega) op_int).mono fun _ ⟨rows, h, hr, hl⟩ => by
    obtain ⟨l, rfl, hq⟩ := rows_map (f := fun x => [PV.int x]) (R := fun _ => True) (fun r h => by obtain ⟨b, hb⟩ := hr r h; exact ⟨b, hb, trivial⟩)
    rw [List.length_map] at hl
    exact ⟨l, h, reach_len hl (by decide +kernel)⟩
theorem op_un : Opn Try.prog 151 (fun ps => ∃ x : Un, ps = encUn x) :=
  (Opn.struct (Qs := [_, _, _, _, _]) Try.underlying151 (by kernel_rfl) (fun fuel => ⟨op_str fuel, op_str fuel, op_int fuel, op_int fuel, op_int fuel, trivial⟩)).mono fun _ h => by
    obtain ⟨_, ⟨a, rfl⟩, _, ⟨_, ⟨b, rfl⟩, _, ⟨_, ⟨c, rfl⟩, _, ⟨_, ⟨d, rfl⟩, _, ⟨_, ⟨e, rfl⟩, _, rfl, rfl⟩, rfl⟩, rfl⟩, rfl⟩, rfl⟩ := h
    exact ⟨⟨a, b, c, d, e⟩, rfl⟩
theorem op_uns : Opn Try.prog 23 (fun ps => ∃ l : List Un, ps = [.sl 5 (l.map encUn)] ∧ l.length ≤ 140737488355328) :=
  (Opn.slice (n := 5) Try.underlying23 (by kernel_rfl) (by omega) op_un).mono fun _ ⟨rows, h, hr, hl⟩ => by
    obtain ⟨l, rfl, hq⟩ := rows_map (f := encUn) (R := fun _ => True) (fun r h => by obtain ⟨b, hb⟩ := hr r h; exact ⟨b, hb, trivial⟩)
    rw [List.length_map] at hl
    exact ⟨l, h, reach_len hl (by decide +kernel)⟩
theorem op_ty : Opn Try.prog 106 (fun ps => ∃ x : Ty, ps = encTy x ∧ x.names.length ≤ 140737488355328) :=
  (Opn.struct (Qs := [_, _, _, _, _, _]) Try.underlying106 (by kernel_rfl) (fun fuel => ⟨op_int fuel, op_int fuel, op_int fuel, op_str fuel, op_int fuel, op_strs fuel, trivial⟩)).mono fun _ h => by
    obtain ⟨_, ⟨a, rfl⟩, _, ⟨_, ⟨b, rfl⟩, _, ⟨_, ⟨c, rfl⟩, _, ⟨_, ⟨d, rfl⟩, _, ⟨_, ⟨e, rfl⟩, _, ⟨_, ⟨f, rfl, hf⟩, _, rfl, rfl⟩, rfl⟩, rfl⟩, rfl⟩, rfl⟩, rfl⟩ := h
    exact ⟨⟨a, b, c, d, e, f⟩, rfl, hf⟩
theorem op_w4 : Opn Try.prog 118 (fun ps => ∃ a b c d : Int, ps = [.int a, .int b, .int c, .int d]) :=
  (Opn.array (n := 4) Try.underlying118 (by kernel_rfl) op_int).mono fun _ ⟨parts, h, hl, hr⟩ => by
    match parts, hl with
    | [x, y, z, u], _ =>
      obtain ⟨a, rfl⟩ := hr x (by simp)
      obtain ⟨b, rfl⟩ := hr y (by simp)
      obtain ⟨c, rfl⟩ := hr z (by simp)
      obtain ⟨d, rfl⟩ := hr u (by simp)
      exact ⟨a, b, c, d, h⟩
theorem op_fd : Opn Try.prog 120 (fun ps => ∃ x : Fd, ps = encFd x ∧ x.ty.names.length ≤ 140737488355328) :=
  (Opn.struct (Qs := [_, _, _]) Try.underlying120 (by kernel_rfl) (fun fuel => ⟨op_str fuel, op_ty fuel, op_w4 fuel, trivial⟩)).mono fun _ h => by
    obtain ⟨_, ⟨a, rfl⟩, _, ⟨_, ⟨y, rfl, hy⟩, _, ⟨_, ⟨b, c, d, e, rfl⟩, _, rfl, rfl⟩, rfl⟩, rfl⟩ := h
    exact ⟨⟨a, y, b, c, d, e⟩, rfl, hy⟩
theorem op_fds : Opn Try.prog 63 (fun ps => ∃ l : List Fd, ps = [.sl 11 (l.map encFd)] ∧ l.length ≤ 140737488355328 ∧ ∀ x ∈ l, x.ty.names.length ≤ 140737488355328) :=
  (Opn.slice (n := 11) Try.underlying63 (by kernel_rfl) (by omega) op_fd).mono fun _ ⟨rows, h, hr, hl⟩ => by
    obtain ⟨l, rfl, hq⟩ := rows_map (f := encFd) (R := fun x => x.ty.names.length ≤ 140737488355328) (fun r h => by obtain ⟨b, hb, hc⟩ := hr r h; exact ⟨b, hb, hc⟩)
    rw [List.length_map] at hl
    exact ⟨l, h, reach_len hl (by decide +kernel), hq⟩
theorem op_dp : Opn Try.prog 160 (fun ps => ∃ x : Dp, ps = encDp x ∧ (x.names.length ≤ 140737488355328 ∧ x.from_.length ≤ 140737488355328)) :=
  (Opn.struct (Qs := [_, _, _, _]) Try.underlying160 (by kernel_rfl) (fun fuel => ⟨op_strs fuel, op_str fuel, op_ints fuel, op_int fuel, trivial⟩)).mono fun _ h => by
    obtain ⟨_, ⟨a, rfl, ha⟩, _, ⟨_, ⟨b, rfl⟩, _, ⟨_, ⟨c, rfl, hc⟩, _, ⟨_, ⟨d, rfl⟩, _, rfl, rfl⟩, rfl⟩, rfl⟩, rfl⟩ := h
    exact ⟨⟨a, b, c, d⟩, rfl, ⟨ha, hc⟩⟩
theorem op_dps : Opn Try.prog 64 (fun ps => ∃ l : List Dp, ps = [.sl 4 (l.map encDp)] ∧ l.length ≤ 140737488355328 ∧ ∀ x ∈ l, (x.names.length ≤ 140737488355328 ∧ x.from_.length ≤ 140737488355328)) :=
  (Opn.slice (n := 4) Try.underlying64 (by kernel_rfl) (by omega) op_dp).mono fun _ ⟨rows, h, hr, hl⟩ => by
    obtain ⟨l, rfl, hq⟩ := rows_map (f := encDp) (R := fun x => (x.names.length ≤ 140737488355328 ∧ x.from_.length ≤ 140737488355328)) (fun r h => by obtain ⟨b, hb, hc⟩ := hr r h; exact ⟨b, hb, hc⟩)
    rw [List.length_map] at hl
    exact ⟨l, h, reach_len hl (by decide +kernel), hq⟩
theorem op_sc : Opn Try.prog 66 (fun ps => ∃ x : Sc, ps = encSc x ∧ x.sz) :=
  (Opn.struct (Qs := [_, _, _, _, _, _]) Try.underlying66 (by kernel_rfl) (fun fuel => ⟨op_str fuel, op_str fuel, op_int fuel, op_int fuel, op_fds fuel, op_dps fuel, trivial⟩)).mono fun _ h => by
    obtain ⟨_, ⟨a, rfl⟩, _, ⟨_, ⟨b, rfl⟩, _, ⟨_, ⟨c, rfl⟩, _, ⟨_, ⟨d, rfl⟩, _, ⟨_, ⟨e, rfl, he, he2⟩, _, ⟨_, ⟨f, rfl, hf, hf2⟩, _, rfl, rfl⟩, rfl⟩, rfl⟩, rfl⟩, rfl⟩, rfl⟩ := h
    exact ⟨⟨a, b, c, d, e, f⟩, rfl, ⟨he, hf, he2, hf2⟩⟩
theorem op_scs : Opn Try.prog 24 (fun ps => ∃ l : List Sc, ps = [.sl 6 (l.map encSc)] ∧ l.length ≤ 140737488355328 ∧ ∀ x ∈ l, x.sz) :=
  (Opn.slice (n := 6) Try.underlying24 (by kernel_rfl) (by omega) op_sc).mono fun _ ⟨rows, h, hr, hl⟩ => by
    obtain ⟨l, rfl, hq⟩ := rows_map (f := encSc) (R := fun x => x.sz) (fun r h => by obtain ⟨b, hb, hc⟩ := hr r h; exact ⟨b, hb, hc⟩)
    rw [List.length_map] at hl
    exact ⟨l, h, reach_len hl (by decide +kernel), hq⟩
theorem op_tm : Opn Try.prog 162 (fun ps => ∃ x : Tm, ps = encTm x) :=
  (Opn.struct (Qs := [_, _, _, _, _]) Try.underlying162 (by kernel_rfl) (fun fuel => ⟨op_str fuel, op_str fuel, op_int fuel, op_int fuel, op_int fuel, trivial⟩)).mono fun _ h => by
    obtain ⟨_, ⟨a, rfl⟩, _, ⟨_, ⟨b, rfl⟩, _, ⟨_, ⟨c, rfl⟩, _, ⟨_, ⟨d, rfl⟩, _, ⟨_, ⟨e, rfl⟩, _, rfl, rfl⟩, rfl⟩, rfl⟩, rfl⟩, rfl⟩ := h
    exact ⟨⟨a, b, c, d, e⟩, rfl⟩
theorem op_at : Opn Try.prog 166 (fun ps => ∃ x : At, ps = encAt x) :=
  (Opn.struct (Qs := [_, _, _]) Try.underlying166 (by kernel_rfl) (fun fuel => ⟨op_int fuel, op_tm fuel, op_tm fuel, trivial⟩)).mono fun _ h => by
    obtain ⟨_, ⟨a, rfl⟩, _, ⟨_, ⟨b, rfl⟩, _, ⟨_, ⟨c, rfl⟩, _, rfl, rfl⟩, rfl⟩, rfl⟩ := h
    exact ⟨⟨a, b, c⟩, rfl⟩
theorem op_ats : Opn Try.prog 122 (fun ps => ∃ l : List At, ps = [.sl 11 (l.map encAt)] ∧ l.length ≤ 140737488355328) :=
  (Opn.slice (n := 11) Try.underlying122 (by kernel_rfl) (by omega) op_at).mono fun _ ⟨rows, h, hr, hl⟩ => by
    obtain ⟨l, rfl, hq⟩ := rows_map (f := encAt) (R := fun _ => True) (fun r h => by obtain ⟨b, hb⟩ := hr r h; exact ⟨b, hb, trivial⟩)
    rw [List.length_map] at hl
    exact ⟨l, h, reach_len hl (by decide +kernel)⟩
theorem op_fr : Opn Try.prog 164 (fun ps => ∃ x : Fr, ps = encFr x) :=
  (Opn.struct (Qs := [_, _, _, _]) Try.underlying164 (by kernel_rfl) (fun fuel => ⟨op_str fuel, op_str fuel, op_int fuel, op_tm fuel, trivial⟩)).mono fun _ h => by
    obtain ⟨_, ⟨a, rfl⟩, _, ⟨_, ⟨b, rfl⟩, _, ⟨_, ⟨c, rfl⟩, _, ⟨_, ⟨d, rfl⟩, _, rfl, rfl⟩, rfl⟩, rfl⟩, rfl⟩ := h
    exact ⟨⟨a, b, c, d⟩, rfl⟩
theorem op_frs : Opn Try.prog 121 (fun ps => ∃ l : List Fr, ps = [.sl 8 (l.map encFr)] ∧ l.length ≤ 140737488355328) :=
  (Opn.slice (n := 8) Try.underlying121 (by kernel_rfl) (by omega) op_fr).mono fun _ ⟨rows, h, hr, hl⟩ => by
    obtain ⟨l, rfl, hq⟩ := rows_map (f := encFr) (R := fun _ => True) (fun r h => by obtain ⟨b, hb⟩ := hr r h; exact ⟨b, hb, trivial⟩)
    rw [List.length_map] at hl
    exact ⟨l, h, reach_len hl (by decide +kernel)⟩
theorem op_se : Opn Try.prog 168 (fun ps => ∃ x : Se, ps = encSe x) :=
  (Opn.struct (Qs := [_, _, _]) Try.underlying168 (by kernel_rfl) (fun fuel => ⟨op_str fuel, op_int fuel, op_tm fuel, trivial⟩)).mono fun _ h => by
    obtain ⟨_, ⟨a, rfl⟩, _, ⟨_, ⟨b, rfl⟩, _, ⟨_, ⟨c, rfl⟩, _, rfl, rfl⟩, rfl⟩, rfl⟩ := h
    exact ⟨⟨a, b, c⟩, rfl⟩
theorem op_ses : Opn Try.prog 123 (fun ps => ∃ l : List Se, ps = [.sl 7 (l.map encSe)] ∧ l.length ≤ 140737488355328) :=
  (Opn.slice (n := 7) Try.underlying123 (by kernel_rfl) (by omega) op_se).mono fun _ ⟨rows, h, hr, hl⟩ => by
    obtain ⟨l, rfl, hq⟩ := rows_map (f := encSe) (R := fun _ => True) (fun r h => by obtain ⟨b, hb⟩ := hr r h; exact ⟨b, hb, trivial⟩)
    rw [List.length_map] at hl
    exact ⟨l, h, reach_len hl (by decide +kernel)⟩
theorem op_ru : Opn Try.prog 125 (fun ps => ∃ x : Ru, ps = encRu x ∧ x.sz) :=
  (Opn.struct (Qs := [_, _, _, _, _]) Try.underlying125 (by kernel_rfl) (fun fuel => ⟨op_str fuel, op_int fuel, op_frs fuel, op_ats fuel, op_ses fuel, trivial⟩)).mono fun _ h => by
    obtain ⟨_, ⟨a, rfl⟩, _, ⟨_, ⟨b, rfl⟩, _, ⟨_, ⟨c, rfl, hc⟩, _, ⟨_, ⟨d, rfl, hd⟩, _, ⟨_, ⟨e, rfl, he⟩, _, rfl, rfl⟩, rfl⟩, rfl⟩, rfl⟩, rfl⟩ := h
    exact ⟨⟨a, b, c, d, e⟩, rfl, ⟨hc, hd, he⟩⟩
theorem op_rus : Opn Try.prog 25 (fun ps => ∃ l : List Ru, ps = [.sl 5 (l.map encRu)] ∧ l.length ≤ 140737488355328 ∧ ∀ x ∈ l, x.sz) :=
  (Opn.slice (n := 5) Try.underlying25 (by kernel_rfl) (by omega) op_ru).mono fun _ ⟨rows, h, hr, hl⟩ => by
    obtain ⟨l, rfl, hq⟩ := rows_map (f := encRu) (R := fun x => x.sz) (fun r h => by obtain ⟨b, hb, hc⟩ := hr r h; exact ⟨b, hb, hc⟩)
    rw [List.length_map] at hl
    exact ⟨l, h, reach_len hl (by decide +kernel), hq⟩
theorem op_mv : Opn Try.prog 170 (fun ps => ∃ x : Mv, ps = encMv x) :=
  (Opn.struct (Qs := [_, _, _, _, _]) Try.underlying170 (by kernel_rfl) (fun fuel => ⟨op_str fuel, op_str fuel, op_int fuel, op_int fuel, op_int fuel, trivial⟩)).mono fun _ h => by
    obtain ⟨_, ⟨a, rfl⟩, _, ⟨_, ⟨b, rfl⟩, _, ⟨_, ⟨c, rfl⟩, _, ⟨_, ⟨d, rfl⟩, _, ⟨_, ⟨e, rfl⟩, _, rfl, rfl⟩, rfl⟩, rfl⟩, rfl⟩, rfl⟩ := h
    exact ⟨⟨a, b, c, d, e⟩, rfl⟩
theorem op_mvs : Opn Try.prog 142 (fun ps => ∃ l : List Mv, ps = [.sl 5 (l.map encMv)] ∧ l.length ≤ 140737488355328) :=
  (Opn.slice (n := 5) Try.underlying142 (by kernel_rfl) (by omega) op_mv).mono fun _ ⟨rows, h, hr, hl⟩ => by
    obtain ⟨l, rfl, hq⟩ := rows_map (f := encMv) (R := fun _ => True) (fun r h => by obtain ⟨b, hb⟩ := hr r h; exact ⟨b, hb, trivial⟩)
    rw [List.length_map] at hl
    exact ⟨l, h, reach_len hl (by decide +kernel)⟩
theorem op_cv : Opn Try.prog 144 (fun ps => ∃ x : Cv, ps = encCv x ∧ x.moves.length ≤ 140737488355328) :=
  (Opn.struct (Qs := [_, _, _, _, _]) Try.underlying144 (by kernel_rfl) (fun fuel => ⟨op_str fuel, op_str fuel, op_int fuel, op_int fuel, op_mvs fuel, trivial⟩)).mono fun _ h => by
    obtain ⟨_, ⟨a, rfl⟩, _, ⟨_, ⟨b, rfl⟩, _, ⟨_, ⟨c, rfl⟩, _, ⟨_, ⟨d, rfl⟩, _, ⟨_, ⟨e, rfl, he⟩, _, rfl, rfl⟩, rfl⟩, rfl⟩, rfl⟩, rfl⟩ := h
    exact ⟨⟨a, b, c, d, e⟩, rfl, he⟩
theorem op_cvs : Opn Try.prog 26 (fun ps => ∃ l : List Cv, ps = [.sl 5 (l.map encCv)] ∧ l.length ≤ 140737488355328 ∧ ∀ x ∈ l, x.moves.length ≤ 140737488355328) :=
  (Opn.slice (n := 5) Try.underlying26 (by kernel_rfl) (by omega) op_cv).mono fun _ ⟨rows, h, hr, hl⟩ => by
    obtain ⟨l, rfl, hq⟩ := rows_map (f := encCv) (R := fun x => x.moves.length ≤ 140737488355328) (fun r h => by obtain ⟨b, hb, hc⟩ := hr r h; exact ⟨b, hb, hc⟩)
    rw [List.length_map] at hl
    exact ⟨l, h, reach_len hl (by decide +kernel), hq⟩
theorem op_rf : Opn Try.prog 172 (fun ps => ∃ x : Rf, ps = encRf x) :=
  (Opn.struct (Qs := [_, _, _, _]) Try.underlying172 (by kernel_rfl) (fun fuel => ⟨op_str fuel, op_str fuel, op_int fuel, op_int fuel, trivial⟩)).mono fun _ h => by
    obtain ⟨_, ⟨a, rfl⟩, _, ⟨_, ⟨b, rfl⟩, _, ⟨_, ⟨c, rfl⟩, _, ⟨_, ⟨d, rfl⟩, _, rfl, rfl⟩, rfl⟩, rfl⟩, rfl⟩ := h
    exact ⟨⟨a, b, c, d⟩, rfl⟩
theorem op_rfs : Opn Try.prog 145 (fun ps => ∃ l : List Rf, ps = [.sl 4 (l.map encRf)] ∧ l.length ≤ 140737488355328) :=
  (Opn.slice (n := 4) Try.underlying145 (by kernel_rfl) (by omega) op_rf).mono fun _ ⟨rows, h, hr, hl⟩ => by
    obtain ⟨l, rfl, hq⟩ := rows_map (f := encRf) (R := fun _ => True) (fun r h => by obtain ⟨b, hb⟩ := hr r h; exact ⟨b, hb, trivial⟩)
    rw [List.length_map] at hl
    exact ⟨l, h, reach_len hl (by decide +kernel)⟩
theorem op_pp : Opn Try.prog 147 (fun ps => ∃ x : Pp, ps = encPp x ∧ x.may.length ≤ 140737488355328) :=
  (Opn.struct (Qs := [_, _, _]) Try.underlying147 (by kernel_rfl) (fun fuel => ⟨op_str fuel, op_rfs fuel, op_int fuel, trivial⟩)).mono fun _ h => by
    obtain ⟨_, ⟨a, rfl⟩, _, ⟨_, ⟨b, rfl, hb⟩, _, ⟨_, ⟨c, rfl⟩, _, rfl, rfl⟩, rfl⟩, rfl⟩ := h
    exact ⟨⟨a, b, c⟩, rfl, hb⟩
theorem op_pps : Opn Try.prog 27 (fun ps => ∃ l : List Pp, ps = [.sl 3 (l.map encPp)] ∧ l.length ≤ 140737488355328 ∧ ∀ x ∈ l, x.may.length ≤ 140737488355328) :=
  (Opn.slice (n := 3) Try.underlying27 (by kernel_rfl) (by omega) op_pp).mono fun _ ⟨rows, h, hr, hl⟩ => by
    obtain ⟨l, rfl, hq⟩ := rows_map (f := encPp) (R := fun x => x.may.length ≤ 140737488355328) (fun r h => by obtain ⟨b, hb, hc⟩ := hr r h; exact ⟨b, hb, hc⟩)
    rw [List.length_map] at hl
    exact ⟨l, h, reach_len hl (by decide +kernel), hq⟩
theorem op_src : Opn Try.prog 29 (fun ps => ∃ x : Src, ps = encSrc x ∧ x.sz) :=
  (Opn.struct (Qs := [_, _, _, _, _, _]) Try.underlying29 (by kernel_rfl) (fun fuel => ⟨op_strs fuel, op_uns fuel, op_scs fuel, op_rus fuel, op_cvs fuel, op_pps fuel, trivial⟩)).mono fun _ h => by
    obtain ⟨_, ⟨a, rfl, ha⟩, _, ⟨_, ⟨b, rfl, hb⟩, _, ⟨_, ⟨c, rfl, hc, hc2⟩, _, ⟨_, ⟨d, rfl, hd, hd2⟩, _, ⟨_, ⟨e, rfl, he, he2⟩, _, ⟨_, ⟨f, rfl, hf, hf2⟩, _, rfl, rfl⟩, rfl⟩, rfl⟩, rfl⟩, rfl⟩, rfl⟩ := h
    exact ⟨⟨a, b, c, d, e, f⟩, rfl, ⟨ha, hb, hc, hd, he, hf, hc2, hd2, he2, hf2⟩⟩
theorem op_tb : Opn Try.prog 32 (fun ps => ∃ (s : Src) (o : List Int), ps = encTb s o ∧ s.sz ∧ o.length ≤ 140737488355328) :=
  (Opn.struct (Qs := [_, _]) Try.underlying32 (by kernel_rfl) (fun fuel => ⟨op_src fuel, op_ints fuel, trivial⟩)).mono fun _ h => by
    obtain ⟨_, ⟨s, rfl, hs⟩, _, ⟨_, ⟨o, rfl, ho⟩, _, rfl, rfl⟩, rfl⟩ := h
    exact ⟨s, o, rfl, hs, ho⟩
theorem op_ky : Opn Try.prog 46 (fun ps => ∃ x : Ky, ps = encKy x) :=
  (Opn.struct (Qs := [_, _, _]) Try.underlying46 (by kernel_rfl) (fun fuel => ⟨op_int fuel, op_int fuel, op_int fuel, trivial⟩)).mono fun _ h => by
    obtain ⟨_, ⟨a, rfl⟩, _, ⟨_, ⟨b, rfl⟩, _, ⟨_, ⟨c, rfl⟩, _, rfl, rfl⟩, rfl⟩, rfl⟩ := h
    exact ⟨⟨a, b, c⟩, rfl⟩
theorem op_sp : Opn Try.prog 55 (fun ps => ∃ x : Sp, ps = encSp x) :=
  (Opn.struct (Qs := [_, _]) Try.underlying55 (by kernel_rfl) (fun fuel => ⟨op_int fuel, op_int fuel, trivial⟩)).mono fun _ h => by
    obtain ⟨_, ⟨a, rfl⟩, _, ⟨_, ⟨b, rfl⟩, _, rfl, rfl⟩, rfl⟩ := h
    exact ⟨⟨a, b⟩, rfl⟩
theorem op_fa : Opn Try.prog 75 (fun ps => ∃ x : Fa, ps = encFa x) :=
  (Opn.struct (Qs := [_, _, _, _, _]) Try.underlying75 (by kernel_rfl) (fun fuel => ⟨op_ky fuel, op_int fuel, op_sp fuel, op_int fuel, op_int fuel, trivial⟩)).mono fun _ h => by
    obtain ⟨_, ⟨a, rfl⟩, _, ⟨_, ⟨b, rfl⟩, _, ⟨_, ⟨v, rfl⟩, _, ⟨_, ⟨c, rfl⟩, _, ⟨_, ⟨d, rfl⟩, _, rfl, rfl⟩, rfl⟩, rfl⟩, rfl⟩, rfl⟩ := h
    exact ⟨⟨a, b, v.lo, v.hi, c, d⟩, rfl⟩
theorem op_fas : Opn Try.prog 33 (fun ps => ∃ l : List Fa, ps = [encFs l] ∧ l.length ≤ 140737488355328) :=
  (Opn.slice (n := 8) Try.underlying33 (by kernel_rfl) (by omega) op_fa).mono fun _ ⟨rows, h, hr, hl⟩ => by
    obtain ⟨l, rfl, hq⟩ := rows_map (f := encFa) (R := fun _ => True) (fun r h => by obtain ⟨b, hb⟩ := hr r h; exact ⟨b, hb, trivial⟩)
    rw [List.length_map] at hl
    exact ⟨l, h, reach_len hl (by decide +kernel)⟩
theorem op_wd : Opn Try.prog 35 (fun ps => ∃ w : Wd, ps = encWd w ∧ w.src.sz ∧ w.order.length ≤ 140737488355328) :=
  (Opn.struct (Qs := [_, _]) Try.underlying35 (by kernel_rfl) (fun fuel => ⟨op_tb fuel, op_fas fuel, trivial⟩)).mono fun _ h => by
    obtain ⟨_, ⟨s, o, rfl, hs, ho⟩, _, ⟨_, ⟨f, rfl, hf⟩, _, rfl, rfl⟩, rfl⟩ := h
    exact ⟨⟨s, o, f⟩, rfl, hs, ho⟩
end Go.Proofs.Ytmaggokcjcdllaa
