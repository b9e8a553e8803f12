/- Literals, copy, conversions, greatest and least: sound; the operations all together. Conditions: none. -/
import Derived.Test.YtmkkfgifeekgeaaVcP
namespace Go.Avc
open Go.RowKit

section
variable {Γ : Ctx} {s : St} {tm : Array Value} {w : World} {β : BM} {P : Program} {K : Kont}

theorem rowsOf_spec {blk : Nat → Option Blk} {sz : Nat} {get : Operand → AV} : ∀ {parts : List (Nat × Operand)} {i : Nat} {rows : List (List PV)}, rowsOf blk sz get i parts = some rows →
    rows.length = parts.length ∧ parts = ((parts.map (·.2)).zipIdx i).map (fun x => (x.2, x.1)) ∧
    ∀ (j : Nat) (row : List PV), rows[j]? = some row → ∃ x, parts[j]?.map (·.2) = some x ∧ allOne blk (cellsOf (get x)) = true ∧ toPVL blk (cellsOf (get x)) = some row ∧ row.length = sz
  | [], i, rows, h => by simp only [rowsOf, Option.some.injEq] at h; subst h; simp
  | (j, x) :: l, i, rows, h => by
    unfold rowsOf at h
    split at h
    case h_2 => cases h
    rename_i hj
    split at h
    case h_2 => cases h
    rename_i h1
    split at h
    case h_2 => cases h
    rename_i ps hps
    split at h
    case h_2 => cases h
    rename_i hlen
    have hj := Nat.eq_of_beq_eq_true hj
    subst hj
    have hlen := Nat.eq_of_beq_eq_true hlen
    simp only [Option.map_eq_some_iff] at h
    obtain ⟨q, hq, rfl⟩ := h
    obtain ⟨g1, g2, g3⟩ := rowsOf_spec hq
    refine ⟨by simp [g1], ?_, fun y row hy => ?_⟩
    · simp only [List.map_cons, List.zipIdx_cons]
      rw [← g2]
    · cases y with
      | zero => simp only [List.getElem?_cons_zero, Option.some.injEq] at hy; subst hy; exact ⟨x, rfl, h1, hps, hlen⟩
      | succ y => simpa using g3 y row (by simpa using hy)

theorem keysOps_mem {get : Operand → AV} : ∀ {l : List (Nat × Operand)} {k : Nat}, k ∈ keysOps get l ↔ ∃ x ∈ l, k ∈ (get x.2).keys
  | [], k => by simp [keysOps]
  | (i, x) :: l, k => by simp [keysOps, keysOps_mem (l := l)]

theorem buildSlice_sound {a : Act} (h : Rl Γ s a.tmps w β) {t : TypeId} {len : Nat} {parts : Array (Nat × Operand)} {d : Nat} (hd : d ∉ s.used) (hdfx : d ∉ Γ.fx) {md : Bool} (hK : opBuildSlice md P t len parts.toList s.geto s.blk Γ.fx d K) :
    Out Γ s a.tmps K ((Instr.buildSlice t len (parts.map fun (i, x) => (i, a.eval x))).run P w) := by
  unfold opBuildSlice at hK
  split at hK
  case h_2 => exact hK.elim
  rename_i e ht
  split at hK
  case h_2 => exact hK.elim
  rename_i sz hs
  split at hK
  case h_2 => exact hK.elim
  rename_i z hz
  split at hK
  case h_2 => exact hK.elim
  rename_i hzl
  split at hK
  case h_2 => exact hK.elim
  rename_i rows hrows
  split at hK
  case h_2 => exact hK.elim
  rename_i hpl
  split at hK
  case h_2 => exact hK.elim
  rename_i hdj
  obtain ⟨hlim, hK⟩ := hK
  obtain ⟨i, zv, hi, hzv, rfl, hone, hzr⟩ := zeroOf_spec hz
  have hsz : i.size = sz + 1 := szOf_info hs hi
  have hpl := Nat.eq_of_beq_eq_true hpl
  obtain ⟨r1, r2, r3⟩ := rowsOf_spec hrows
  let vs : List Value := (parts.toList.map (·.2)).map a.eval
  have hvl : vs.length = len := by simp [vs]; simpa using hpl
  have hv : ∀ (j : Nat) (row : List PV), rows[j]? = some row → ∃ x, (parts.toList.map (·.2))[j]? = some x ∧ vs[j]? = some (a.eval x) ∧ (a.eval x).cells.size = sz + 1 ∧ toPVL s.blk (cellsOf (s.geto x)) = some row ∧
      ∀ (y : Nat) (av : AV), (cellsOf (s.geto x))[y]? = some av → AR w (Av Γ.X β) β av ((a.eval x).cells.getD y undef) ∧ ((a.eval x).cells.getD y undef).oneCell' = true := fun j row hj => by
    obtain ⟨x, hx, h1, h2, h3⟩ := r3 j row hj
    obtain ⟨hl, hc⟩ := cellsOf_spec h (geto_AR h x) (B := s.blk) (fun _ h => h) h1
    have hx' : (parts.toList.map (·.2))[j]? = some x := by rw [List.getElem?_map]; exact hx
    exact ⟨x, hx', by simp only [vs, List.getElem?_map, hx', Option.map_some], by rw [hl, ← (toPVL_some h2).1]; exact h3, h2, hc⟩
  have hall : ∀ v ∈ vs, v.cells.size = sz + 1 := fun v hvm => by
    obtain ⟨j, hj, rfl⟩ := List.getElem_of_mem hvm
    have hjr : j < rows.length := by rw [r1]; simp [vs] at hj; simpa using hj
    obtain ⟨x, _, g2, g3, _⟩ := hv j _ (List.getElem?_eq_getElem hjr)
    rw [List.getElem?_eq_getElem hj] at g2
    rw [Option.some.inj g2]
    exact g3
  have hpart : (parts.map fun (i, x) => (i, a.eval x)).toList = (vs.zipIdx 0).map fun x => (x.2, x.1) := by
    rw [Array.toList_map]
    conv => lhs; rw [r2]
    simp only [vs, List.zipIdx_map, List.map_map]
    rfl
  obtain ⟨cells, hcells⟩ : ∃ cells : Array Value, cells = (vs.flatMap fun v => v.cells.toList).toArray := ⟨_, rfl⟩
  have hget : ∀ k, cells[k]? = (vs[k / (sz + 1)]?).bind (fun v => v.cells[k % (sz + 1)]?) := fun k => by
    rw [hcells, List.getElem?_toArray, Great.flat_get (Nat.succ_pos _) vs hall k]
  have hcs : cells.size = len * (sz + 1) := by
    rw [hcells, List.size_toArray, ← hvl]
    have : ∀ (l : List Value), (∀ v ∈ l, v.cells.size = sz + 1) → (l.flatMap fun v => v.cells.toList).length = l.length * (sz + 1) := by
      intro l
      induction l with
      | nil => intro _; simp
      | cons v l ih => intro hl; rw [List.flatMap_cons, List.length_append, ih fun v hv => hl v (List.mem_cons_of_mem _ hv), Array.length_toList, hl v List.mem_cons_self, List.length_cons, Nat.succ_mul]; omega
    exact this vs hall
  have hrun : (Instr.buildSlice t len (parts.map fun (i, x) => (i, a.eval x))).run P w = .ok (.slice (some ⟨w.heap.size, 0, none⟩) len len) (w.alloc (.cells cells e)) := by
    have hfill : ∀ (z : Array Value), z.size = len * (sz + 1) → Instr.fill (fun i => some (i * (sz + 1), sz + 1)) z (parts.map fun (i, x) => (i, a.eval x)).toList = some cells := fun z hz => by
      rw [hpart, hcells]
      exact Great.fill_whole (Nat.succ_pos _) vs z hall (by rw [hvl, hz])
    have hlim' : ¬ (16777216 < len * (sz + 1)) := by omega
    simp only [Instr.buildSlice, Sem.run_bind, run_underlying ht, run_sizeOf hs, Result.andThen_ok, Nat.reducePow, gt_iff_lt, Nat.succ_eq_add_one]
    rw [if_neg hlim']
    by_cases h0 : len * (sz + 1) = 0
    · simp only [Sem.run_pure, Result.andThen_ok, if_pos h0, Sem.run_bind]
      rw [hfill _ (by simp)]
      simp [newRow]
    · simp only [Sem.run_pure, Result.andThen_ok, if_neg h0, Sem.run_bind, hzr]
      rw [hfill _ (by simp)]
      simp [newRow]
  obtain ⟨β1, f1, f2, f3, f4⟩ := fks h md (disj_spec hdj)
  have hdu : d ∉ (s.acts (fk md (keysOps s.geto parts.toList))).used := by rw [fks_used]; exact hd
  obtain ⟨β', q1, q2⟩ := row_out f1 (w1 := w) rfl rfl rfl rfl hdu hdfx e (sz := sz + 1) (rows := rows) (cs := cells) (0, 0) (NF.zero _) (Nat.succ_pos _)
    (fun j row hj => by obtain ⟨_, _, _, _, h4⟩ := r3 j row hj; exact h4)
    (fun j row y p hj hy => by
      obtain ⟨x, hx, g2, g3, g4, g5⟩ := hv j row hj
      have hyl : y < sz + 1 := by
        obtain ⟨_, _, _, _, h4⟩ := r3 j row hj
        have := (List.getElem?_eq_some_iff.1 hy).1
        omega
      have e1 : (j * (sz + 1) + y) / (sz + 1) = j := by rw [Nat.mul_comm, Nat.mul_add_div (Nat.succ_pos _), Nat.div_eq_of_lt hyl, Nat.add_zero]
      have e2 : (j * (sz + 1) + y) % (sz + 1) = y := by rw [Nat.mul_comm, Nat.mul_add_mod]; exact Nat.mod_eq_of_lt hyl
      have e3 : cells.getD (j * (sz + 1) + y) undef = (a.eval x).cells.getD y undef := by
        rw [Array.getD_eq_getD_getElem?, hget, e1, e2, g2, Option.bind_some, ← Array.getD_eq_getD_getElem?]
      rw [e3]
      obtain ⟨av, ha, hap⟩ := (toPVL_some g4).2 y p hy
      refine ⟨?_, (g5 y av ha).2⟩
      exact freezes_PRL h (l := keysOps s.geto parts.toList) (xs := cellsOf (s.geto x)) (us := fun y => (a.eval x).cells.getD y undef) (fun y av hy => (g5 y av hy).1) (fun k hk => by
        rw [cellsOf_keys] at hk
        have hxm := List.mem_of_getElem? hx
        obtain ⟨pr, hpr, rfl⟩ := List.mem_map.1 hxm
        exact keysOps_mem.2 ⟨pr, hpr, hk⟩) g4 f3 f4 y p hy)
    (cap := len) (by rw [r1]; omega) (by rw [hcs]; exact Nat.le_refl _) (by
      unfold maxLen
      have : len * 1 ≤ len * (sz + 1) := Nat.mul_le_mul_left _ (by omega)
      omega)
  refine ⟨_, _, _, _, β', hK, hrun, by rw [acts_append]; exact q1, ?_, ?_⟩
  · rw [show len = rows.length from by rw [r1]; omega]
    rw [show rows.length = len from by rw [r1]; omega] at q2 ⊢
    exact q2
  · intro k hk
    simp only [AV.keys, List.mem_singleton] at hk
    subst hk
    rw [acts_append]
    simp [St.acts, St.act, St.new]

theorem placesOf_spec : ∀ {fs : List Field} {pl : List (Nat × Nat)}, placesOf P fs = some pl → fs.mapM (fun f => (P.info? f.type).map fun i => (f.offset, i.size)) = some pl
  | [], pl, h => by simp only [placesOf, Option.some.injEq] at h; subst h; rfl
  | f :: fs, pl, h => by
    unfold placesOf at h
    split at h
    case h_2 => cases h
    rename_i n hn
    split at h
    case h_2 => cases h
    rename_i r hr
    cases h
    unfold szOf at hn
    rw [Option.map_eq_some_iff] at hn
    obtain ⟨i, hi, rfl⟩ := hn
    simp [List.mapM_cons, hi, placesOf_spec hr]

theorem fill_sound {a : Act} (h : Rl Γ s a.tmps w β) {place : Nat → Option (Nat × Nat)} : ∀ {parts : List (Nat × Operand)} {cells cells' : List AV} {vs : Array Value}, allParts s.blk s.geto parts = true → fillAV place s.geto cells parts = some cells' → vs.size = cells.length →
    (∀ (j : Nat) (av : AV), cells[j]? = some av → AR w (Av Γ.X β) β av (vs.getD j undef) ∧ ∀ k ∈ av.keys, k ∈ s.used) →
    ∃ vs', Instr.fill place vs (parts.map fun (i, x) => (i, a.eval x)) = some vs' ∧ vs'.size = cells'.length ∧ ∀ (j : Nat) (av : AV), cells'[j]? = some av → AR w (Av Γ.X β) β av (vs'.getD j undef) ∧ ∀ k ∈ av.keys, k ∈ s.used
  | [], cells, cells', vs, _, hf, hl, hc => by
    simp only [fillAV, Option.some.injEq] at hf
    subst hf
    exact ⟨vs, rfl, hl, hc⟩
  | (i, x) :: l, cells, cells', vs, ha, hf, hl, hc => by
    unfold fillAV at hf
    split at hf
    case h_2 => cases hf
    rename_i off n hp
    split at hf
    case h_2 => cases hf
    rename_i hn
    split at hf
    case h_2 => cases hf
    rename_i c1 hsp
    have hn := Nat.eq_of_beq_eq_true hn
    subst hn
    simp only [allParts] at ha
    cases h1 : allOne s.blk (cellsOf (s.geto x)) with
    | false => rw [h1] at ha; cases ha
    | true =>
      rw [h1] at ha
      obtain ⟨xl, xc⟩ := cellsOf_spec h (geto_AR h x) (B := s.blk) (fun _ h => h) h1
      obtain ⟨q1, q2, q3⟩ := splice_spec hsp
      obtain ⟨s1, s2⟩ := Great.foldl_set off (a.eval x).cells.toList 0 vs
      have e : (a.eval x).cells.zipIdx.foldl (fun cs (x : Value × Nat) => cs.setIfInBounds (off + x.2) x.1) vs = ((a.eval x).cells.toList.zipIdx 0).foldl (fun cs (x : Value × Nat) => cs.setIfInBounds (off + x.2) x.1) vs := by
        rw [← Array.foldl_toList]
        congr 1
        simp
      rw [← e] at s1 s2
      obtain ⟨vs', g1, g2, g3⟩ := fill_sound h (vs := (a.eval x).cells.zipIdx.foldl (fun cs (x : Value × Nat) => cs.setIfInBounds (off + x.2) x.1) vs) (by simpa using ha) hf (by omega) (fun j av hj => by
        rw [q3 j] at hj
        rw [Array.getD_eq_getD_getElem?, s2 j]
        have hjl : j < vs.size := by
          rw [hl]
          split at hj
          · omega
          · exact (List.getElem?_eq_some_iff.1 hj).1
        simp only [Array.length_toList, xl, Nat.add_zero]
        split at hj
        · rename_i hr
          rw [if_pos ⟨hr.1, hr.2, hjl⟩]
          have := (xc _ av hj).1
          rw [Array.getD_eq_getD_getElem?] at this
          simp only [Array.getElem?_toList]
          refine ⟨this, fun k hk => geto_keys h x k ?_⟩
          rw [← cellsOf_keys]
          exact AV.mem_keysL.2 ⟨av, List.mem_of_getElem? hj, hk⟩
        · rename_i hr
          rw [if_neg (by omega), ← Array.getD_eq_getD_getElem?]
          exact hc j av hj)
      refine ⟨vs', ?_, g2, g3⟩
      simp only [List.map_cons, Instr.fill, hp, xl]
      rw [if_neg (by simp; omega)]
      exact g1

theorem build_sound {a : Act} (h : Rl Γ s a.tmps w β) {t : TypeId} {parts : Array (Nat × Operand)} (hK : opBuild P t parts.toList s.geto s.blk K) :
    Out Γ s a.tmps K ((Instr.build t (parts.map fun (i, x) => (i, a.eval x))).run P w) := by
  unfold opBuild at hK
  simp only [forceC_eq] at hK
  split at hK
  case h_2 => exact hK.elim
  rename_i z hz
  split at hK
  case h_2 => exact hK.elim
  rename_i hall
  obtain ⟨i, zv, hi, hzv, rfl, hone, hzr⟩ := zeroOf_spec hz
  have h0 : ∀ (j : Nat) (av : AV), (pures (zv.cells.toList.map PV.val))[j]? = some av → AR w (Av Γ.X β) β av (zv.cells.getD j undef) ∧ ∀ k ∈ av.keys, k ∈ s.used := fun j av hj => by
    simp only [pures, List.map_map, List.getElem?_map, Option.map_eq_some_iff, Array.getElem?_toList] at hj
    obtain ⟨v, hv, rfl⟩ := hj
    rw [Array.getD_eq_getD_getElem?, hv]
    exact ⟨.pure _ _ (.val _), by simp [AV.keys]⟩
  have hl0 : zv.cells.size = (pures (zv.cells.toList.map PV.val)).length := by simp [pures]
  have fin : ∀ {cells : List AV} {vs : Array Value}, vs.size = cells.length → (∀ (j : Nat) (av : AV), cells[j]? = some av → AR w (Av Γ.X β) β av (vs.getD j undef) ∧ ∀ k ∈ av.keys, k ∈ s.used) → K (.agg cells) [] →
      P.built t (parts.map fun (i, x) => (i, a.eval x)).toList = some vs → Out Γ s a.tmps K ((Instr.build t (parts.map fun (i, x) => (i, a.eval x))).run P w) := fun hvl hc hK hb => by
    refine Out.same h hK (run_build w t _ _ hb) (.agg _ _ hvl fun j p hj => (hc j p hj).1) fun k hk => ?_
    simp only [AV.keys] at hk
    obtain ⟨x, hx, hkx⟩ := AV.mem_keysL.1 hk
    obtain ⟨j, hj, rfl⟩ := List.getElem_of_mem hx
    exact (hc j _ (List.getElem?_eq_getElem hj)).2 k hkx
  split at hK
  · rename_i fs hu
    split at hK
    case h_2 => exact hK.elim
    rename_i places hpl
    split at hK
    case h_2 => exact hK.elim
    rename_i cells hf
    obtain ⟨vs', g1, g2, g3⟩ := fill_sound h hall hf hl0 h0
    refine fin g2 g3 hK ?_
    have hnth : (fun i => nth places i) = (places.toArray[·]?) := by funext i; simp [nth_eq]
    unfold Program.built
    simp only [hi, hu, hzv, placesOf_spec hpl, Array.toList_map]
    rw [← hnth]
    exact g1
  · rename_i n e hu
    split at hK
    case h_2 => exact hK.elim
    rename_i sz hsz
    split at hK
    case h_2 => exact hK.elim
    rename_i cells hf
    obtain ⟨vs', g1, g2, g3⟩ := fill_sound h hall hf hl0 h0
    refine fin g2 g3 hK ?_
    unfold szOf at hsz
    rw [Option.map_eq_some_iff] at hsz
    obtain ⟨ie, hie, rfl⟩ := hsz
    unfold Program.built
    simp only [hi, hu, hzv, hie, Array.toList_map]
    exact g1
  · exact hK.elim

theorem ovr_get {α : Type} {l src : List α} {i c : Nat} (hc : c ≤ src.length) (hi : i + c ≤ l.length) (x : Nat) : (ovr l i c src)[x]? = if i ≤ x ∧ x < i + c then src[x - i]? else l[x]? := by
  unfold ovr
  have e1 : (l.take i).length = i := by simp; omega
  have e2 : (src.take c).length = c := by simp; omega
  by_cases h1 : x < i
  · rw [if_neg (by omega), List.append_assoc, List.getElem?_append_left (by omega), List.getElem?_take, if_pos h1]
  · by_cases h2 : x < i + c
    · rw [if_pos (by omega), List.append_assoc, List.getElem?_append_right (by omega), e1, List.getElem?_append_left (by omega), List.getElem?_take, if_pos (by omega)]
    · rw [if_neg (by omega), List.append_assoc, List.getElem?_append_right (by omega), e1, List.getElem?_append_right (by omega), e2, List.getElem?_drop]
      congr 1
      omega
theorem ovr_length {α : Type} {l src : List α} {i c : Nat} (hc : c ≤ src.length) (hi : i + c ≤ l.length) : (ovr l i c src).length = l.length := by
  simp [ovr]; omega

theorem copy_sound (h : Rl Γ s tm w β) {t tx ty : TypeId} {x y : AV} {ux uy : Value} (hx : AR w (Av Γ.X β) β x ux) (hy : AR w (Av Γ.X β) β y uy) (hK : opCopy P t x y s.blk K) :
    Out Γ s tm K ((Builtin.copy_ #[t, tx] ty #[ux, uy]).run P w) := by
  unfold opCopy at hK
  split at hK
  case h_2 => exact hK.elim
  rename_i e ht
  split at hK
  case h_2 => exact hK.elim
  rename_i sz' hs
  split at hK
  case h_2 => exact hK.elim
  rename_i src hsrc
  split at hK
  case h_2 => exact hK.elim
  rename_i k i n
  split at hK
  case h_2 => exact hK.elim
  rename_i sz rows hblk
  split at hK
  case h_2 => exact hK.elim
  rename_i hsz
  have hsz := Nat.eq_of_beq_eq_true hsz
  subst hsz
  obtain ⟨g1, g2, g3⟩ := srcRows_spec (P := P) h hy hsrc
  obtain ⟨cs, c1, c2, c3⟩ := g3 (min src.length n) (Nat.min_le_left _ _)
  obtain ⟨bi, hβ, hb⟩ := h.live hblk
  have hb' := hb
  obtain ⟨b1, b2, b2', b3, b4⟩ := hb'
  have same : n = 0 → i ≤ rows.length → ∀ (a : Option Addr) (cap : Nat), Out Γ s tm K ((Builtin.copy_ #[t, tx] ty #[.slice a n cap, uy]).run P w) := fun hn hil a cap => by
    subst hn
    have hm0 : min src.length 0 = 0 := Nat.min_zero _
    rw [hm0] at hK c1 c2
    have hcs : cs = #[] := Array.eq_empty_of_size_eq_zero (by omega)
    subst hcs
    refine ⟨_, _, .int .i64 ((0 : Nat) : Int), w, β, hK, ?_, h.congr (fun _ => rfl) (fun k' => ?_) rfl, .pure _ _ (.val _), by simp [AV.keys]⟩
    · cases a <;> simp [Builtin.copy_, run_underlying ht, g1, run_sizeOf hs, c1 w rfl, storeCells, goInt]
    · show (s.set k _).blk k' = _
      rw [St.blk_set]
      by_cases e : k = k'
      · subst e
        rw [if_pos rfl, hblk]
        simp [ovr]
      · rw [if_neg e]
  cases hx with
  | lslDead _ _ _ _ hd => rw [hβ] at hd; cases hd
  | lslV _ _ bi' a hbb hil =>
    rw [hβ] at hbb; cases hbb
    exact same rfl (by omega) a 0
  | lsl _ _ _ bi' cap hbb hv hn hcc hil hm =>
    rw [hβ] at hbb; cases hbb
    rcases b4 with ⟨b4, _⟩ | ⟨_, cur, et, fz, b5, b6, b7, b8, b9⟩
    · rw [hv] at b4; cases b4
    have hcc' : (i + n) * (sz' + 1) ≤ cur.size := by
      rw [← b7, ← b1]
      exact Nat.le_trans (Nat.mul_le_mul_right _ (by omega)) hcc
    have hmn : min src.length n ≤ n := Nat.min_le_right _ _
    have hbnd : i * (sz' + 1) + min src.length n * (sz' + 1) ≤ cur.size := by
      rw [← Nat.add_mul]
      exact Nat.le_trans (Nat.mul_le_mul_right _ (by omega)) hcc'
    have hcl : cs.toList.length = min src.length n * (sz' + 1) := by simp [c2]
    have hone : ∀ u ∈ cs.toList, u.oneCell' = true := by
      have := cells_of_rows (rows := src.take (min src.length n)) (sz := sz' + 1) (cs := cs) (w := w) (A := Av Γ.X β) (fun x row hx => g2 x row (by
        rw [List.getElem?_take] at hx
        split at hx
        · exact hx
        · cases hx)) (by rw [c2, List.length_take]; congr 1; omega) (fun x row y p hx hlt hy => c3 x row y p (by
        rw [List.getElem?_take] at hx
        split at hx
        · exact hx
        · cases hx) (by simp at hlt; omega) hy)
      exact this
    obtain ⟨w', cs', r1, r2, r3, r4, r5, r6, r7, r8, r9⟩ := run_stores P bi.b et fz cs.toList (i * (sz' + 1)) 0 cur w b5 b6 (by omega) hone
    refine ⟨_, _, .int .i64 (min src.length n : Nat), w', β, hK, ?_, ?_, .pure _ _ (.val _), by simp [AV.keys]⟩
    · rw [← b1] at r1
      have hmin : Nat.min src.length n = min src.length n := rfl
      simp [Builtin.copy_, run_underlying ht, g1, run_sizeOf hs, goInt, hmin, c1 w rfl, r1]
    · show Rl Γ (s.set k _) tm w' β
      refine h.upd hβ hv r5 (fun b hbne => r6 b hbne) r7 r8 r9 (by simp [Blk.keys]) fun had => ⟨b1, b2, by rw [ovr_length (Nat.min_le_left _ _) (by omega)]; exact b2', fun x row hx => ?_, .inr ⟨hv, cs', et, fz, r2, fun j hj => b6 j (by omega), b7.trans r3.symm, by rw [ovr_length (Nat.min_le_left _ _) (by omega)]; exact b8, fun x row y p hx hy => ?_⟩⟩
      · rw [ovr_get (Nat.min_le_left _ _) (by omega)] at hx
        split at hx
        · exact g2 _ row hx
        · exact b3 x row hx
      · rw [ovr_get (Nat.min_le_left _ _) (by omega)] at hx
        have hrl : row.length = sz' + 1 := by
          split at hx
          · exact g2 _ row hx
          · exact b3 x row hx
        have hyl : y < sz' + 1 := by have := (List.getElem?_eq_some_iff.1 hy).1; omega
        rw [r4, hcl]
        split at hx
        · rename_i hr
          have hm1 : x * (sz' + 1) + (sz' + 1) ≤ (i + min src.length n) * (sz' + 1) := by rw [← Nat.succ_mul]; exact Nat.mul_le_mul_right _ (by omega)
          have hm2 : i * (sz' + 1) ≤ x * (sz' + 1) := Nat.mul_le_mul_right _ hr.1
          rw [Nat.add_mul] at hm1
          rw [if_pos (by omega), getD_toList]
          have e1 : x * (sz' + 1) + y - (i * (sz' + 1) + 0) = (x - i) * (sz' + 1) + y := by rw [Nat.sub_mul]; omega
          rw [e1]
          have := c3 (x - i) row y p hx (by omega) hy
          exact ⟨this.1.mono had, this.2⟩
        · rename_i hr
          have hnot : ¬ (i * (sz' + 1) + 0 ≤ x * (sz' + 1) + y ∧ x * (sz' + 1) + y < i * (sz' + 1) + 0 + min src.length n * (sz' + 1)) := by
            rintro ⟨p1, p2⟩
            rcases Nat.lt_or_ge x i with hlt | hge
            · have : x * (sz' + 1) + (sz' + 1) ≤ i * (sz' + 1) := by rw [← Nat.succ_mul]; exact Nat.mul_le_mul_right _ hlt
              omega
            · have hge2 : i + min src.length n ≤ x := by omega
              have : (i + min src.length n) * (sz' + 1) ≤ x * (sz' + 1) := Nat.mul_le_mul_right _ hge2
              rw [Nat.add_mul] at this
              omega
          rw [if_neg hnot]
          exact ⟨(b9 x row y p hx hy).1.mono had, (b9 x row y p hx hy).2⟩
end
end Go.Avc
