/- A slice of what is not changed whose room is cut off behind it, and what is appended to it. Conditions: none. -/
import Derived.Test.YtlploeedieenbaaWd
import Derived.Shelf.SlSortCmp.WholeK
set_option linter.unusedSimpArgs false
set_option linter.unusedVariables false
namespace Go.Avc
open Go.RowKit
def capWant (x : AV) (lo mx : Option AV) : Option (Nat × List (List PV)) := match lo, mx with
  | none, some _ => match x with
    | .pure (.sl sz rows) => some (sz, rows)
    | _ => none
  | _, _ => none
theorem capWant_spec {x : AV} {lo mx : Option AV} {sz : Nat} {rows : List (List PV)} (h : capWant x lo mx = some (sz, rows)) : x = .pure (.sl sz rows) ∧ lo = none := by
  unfold capWant at h
  split at h
  · split at h
    · cases h; exact ⟨rfl, rfl⟩
    · cases h
  · cases h
def opSliceC (P : Program) (t : TypeId) (sz : Nat) (rows : List (List PV)) (hi mx : Option AV) (K : Kont) : Prop :=
  match P.underlying t with
  | some (.slice e) => match natEq (szOf P e) sz with
    | true => boundsVC rows.length none hi mx fun l h m => l = 0 ∧ h = m ∧ K (.pure (.slc sz (cut rows 0 h))) []
    | false => False
  | _ => False
def slcOf (x : AV) : Option (Nat × List (List PV)) := match x with
  | .pure (.slc sz rows) => some (sz, rows)
  | _ => none
theorem slcOf_spec {x : AV} {sz : Nat} {rows : List (List PV)} (h : slcOf x = some (sz, rows)) : x = .pure (.slc sz rows) := by
  unfold slcOf at h
  split at h
  · cases h; rfl
  · cases h
def opAppendC (P : Program) (t : TypeId) (sz : Nat) (rows : List (List PV)) (y : AV) (blk : Nat → Option Blk) (d : Nat) (K : Kont) : Prop :=
  match P.underlying t with
  | some (.slice e) => match szOf P e with
    | some (s + 1) => match bytesOf P e with
      | some by_ => match zeroOf P e with
       | some z => match natEq (some (s + 1)) z.length with
        | true => match srcRows y blk (s + 1) with
         | some news => match Nat.beq sz (s + 1) with
          | true => ∃ c : Bool, match c with
            | true => news.length = 0 ∧ K (.pure (.sl sz rows)) []
            | false => 0 < news.length ∧ (rows.length + news.length) * by_ ≤ 140737488355328 ∧ rows.length + news.length ≤ 140737488355328 ∧
                K (.lsl d 0 (rows.length + news.length)) [.new d (.row (s + 1) (rows ++ news))]
          | false => False
         | none => False
        | false => False
       | none => False
      | none => False
    | _ => False
  | _ => False
def appArgs (c : Call) : Option (Operand × Operand × TypeId × TypeId) := match c.callee with
  | .builtin .append => match c.args.toList, c.argTypes.toList with
    | [x, y], [t, tx] => some (x, y, t, tx)
    | _, _ => none
  | _ => none
theorem appArgs_spec {c : Call} {x y : Operand} {t tx : TypeId} (h : appArgs c = some (x, y, t, tx)) : c.callee = .builtin .append ∧ c.args = #[x, y] ∧ c.argTypes = #[t, tx] := by
  unfold appArgs at h
  split at h
  · rename_i hc
    split at h
    · rename_i ha ht
      cases h; exact ⟨hc, Array.toList_inj.1 (by simpa using ha), Array.toList_inj.1 (by simpa using ht)⟩
    · cases h
  · cases h
def more7 (md : Bool) (P : Program) (fx : List Nat) (s : St) (o : Oper) (K : Kont) : Prop :=
  match o.op with
  | .slice t x lo hi mx => match capWant (s.geto x) (lo.map s.geto) (mx.map s.geto) with
    | some (sz, rows) => opSliceC P t sz rows (hi.map s.geto) (mx.map s.geto) K
    | none => more6 md P fx s o K
  | .call c => match appArgs c with
    | some (x, y, t, tx) => match slcOf (s.geto x) with
      | some (sz, rows) => match srcKind P tx with
        | true => match o.dst with
          | some d => guardNew d s.used fx (opAppendC P t sz rows (s.geto y) s.blk d K)
          | none => False
        | false => False
      | none => more6 md P fx s o K
    | none => more6 md P fx s o K
  | _ => more6 md P fx s o K

section
variable {Γ : Ctx} {s : St} {tm : Array Value} {w : World} {β : BM} {P : Program} {K : Kont}
theorem sliceC_sound (h : Rl Γ s tm w β) {t : TypeId} {sz : Nat} {rows : List (List PV)} {u : Value} {hi mx : Option AV} {hi' mx' : Option Value} (hx : AR w (Av Γ.X β) β (.pure (.sl sz rows)) u)
    (hhi : optAR Γ w β hi hi') (hmx : optAR Γ w β mx mx') (hmx0 : mx' ≠ none) (hK : opSliceC P t sz rows hi mx K) : Out Γ s tm K ((Instr.sliceAt t u none hi' mx').run P w) := by
  unfold opSliceC at hK
  split at hK
  case h_2 => exact hK.elim
  rename_i e ht
  have hA : (Instr.sliceAt t u none hi' mx').run P w = (Instr.slice t u none hi' mx').run P w := by simp [Instr.sliceAt, run_underlying ht]
  rw [hA]
  split at hK
  case h_2 => exact hK.elim
  rename_i hsz
  have hsz := natEq_spec hsz
  have hlo : optAR Γ w β none none := trivial
  cases hx with
  | pure _ _ hp =>
  cases hp with
  | slnil =>
    obtain ⟨l, h', m, k, ⟨rfl, rfl, hk⟩, hr, b1, b2, b3, b4, _⟩ := bounds_sound (P := P) (isS := true) (len := 0) (cap := 0) (Nat.le_refl _) hlo hhi hmx hK
    have : h' = 0 := by omega
    subst h'
    have : m = 0 := by omega
    subst m
    refine Out.same h hk (u := .slice none 0 0) ?_ (.pure _ _ (by simp [cut]; exact .slcnil sz)) (by simp [AV.keys])
    simp [Instr.slice, run_underlying ht, hr, run_sizeOf hsz]
  | sl _ _ a cap us hc hm hs hb hl hr' hp =>
    obtain ⟨l, h', m, k, ⟨rfl, rfl, hk⟩, hr, b1, b2, b3, b4, _, b5⟩ := bounds_sound (P := P) (isS := true) hc hlo hhi hmx hK
    have em := b5 hmx0
    subst em
    refine Out.same h hk (u := .slice (if m = 0 then some a else some (a.add (0 * sz))) (m - 0) (m - 0)) ?_ (.pure _ _ ?_) (by simp [AV.keys])
    · simp [Instr.slice, run_underlying ht, hr, run_sizeOf hsz]
    · have hlen : (cut rows 0 m).length = m := by rw [cut_length b3]; omega
      have e : (if m = 0 then some a else some (a.add (0 * sz))) = some (if m = 0 then a else a.add (0 * sz)) := by split <;> rfl
      rw [e, Nat.sub_zero]
      have := PR.slc (w := w) (A := Av Γ.X β) sz (cut rows 0 m) (if m = 0 then a else a.add (0 * sz)) (fun x y => us (0 + x) y) (by omega) hs (fun hn => by
        rw [if_neg (by omega), block_add]; exact hb (by omega)) (fun x row hx => hl _ row (cut_get hx).1) (fun x row y p hx hy => by
        obtain ⟨hx', hxl⟩ := cut_get hx
        rw [if_neg (by omega), add_add]
        have := hr' _ row y p hx' hy
        rw [Nat.add_mul, Nat.add_assoc] at this
        exact this) (fun x row y p hx hy => hp _ row y p (cut_get hx).1 hy)
      rw [hlen] at this
      exact this
theorem appendC_sound (h : Rl Γ s tm w β) {t tx ty : TypeId} {sz0 : Nat} {rows : List (List PV)} {y : AV} {ux uy : Value} {d : Nat} (hk : srcKind P tx = true) (hd : d ∉ s.used) (hdfx : d ∉ Γ.fx) (hx : AR w (Av Γ.X β) β (.pure (.slc sz0 rows)) ux) (hy : AR w (Av Γ.X β) β y uy)
    (hK : opAppendC P t sz0 rows y s.blk d K) : Out Γ s tm K ((Builtin.append_ #[t, tx] ty #[ux, uy]).run P w) := by
  unfold opAppendC at hK
  split at hK
  case h_2 => exact hK.elim
  rename_i e ht
  split at hK
  case h_2 => exact hK.elim
  rename_i sz hs
  split at hK
  case h_2 => exact hK.elim
  rename_i by_ hby
  split at hK
  case h_2 => exact hK.elim
  rename_i z hz
  split at hK
  case h_2 => exact hK.elim
  rename_i hzl
  split at hK
  case h_2 => exact hK.elim
  rename_i news hnews
  split at hK
  case h_2 => exact hK.elim
  rename_i hse
  have hse := Nat.eq_of_beq_eq_true hse
  subst hse
  obtain ⟨i, zv, hi, hzv, rfl, hone, _⟩ := zeroOf_spec hz
  have hsz : i.size = sz + 1 := szOf_info hs hi
  have hbyi := bytesOf_info hby hi
  have hzs : zv.cells.size = sz + 1 := by have := natEq_spec hzl; simp at this; omega
  obtain ⟨g1, g2, g3⟩ := srcRows_spec h hy hnews
  obtain ⟨cs, c1, c2, c3⟩ := g3 news.length (Nat.le_refl _)
  have hsrc : Src P i.size tx uy news.length cs.toList w := by
    rw [hsz]
    exact ⟨srcKind_spec hk, g1, by rw [Array.toArray_toList]; exact c1 w rfl, by rw [Array.toArray_toList]; exact c1 w.drew rfl, by rw [Array.length_toList, c2], cells_of_rows g2 c2 c3⟩
  have hc3 : ∀ (i : Nat) (row : List PV) (j : Nat) (p : PV), news[i]? = some row → row[j]? = some p → PR w (Av Γ.X β) p (cs.getD (i * (sz + 1) + j) undef) ∧ (cs.getD (i * (sz + 1) + j) undef).oneCell' = true :=
    fun i row j p hi hj => c3 i row j p hi (List.getElem?_eq_some_iff.1 hi).1 hj
  -- how the slice lies
  have hux : ∃ base, ux = .slice base rows.length rows.length ∧ PR w (Av Γ.X β) (.sl (sz + 1) rows) ux ∧ (∀ (i : Nat) (row : List PV), rows[i]? = some row → row.length = sz + 1) ∧
      ∃ ocs : List Value, ocs.length = rows.length * (sz + 1) ∧ (Builtin.firstCells i.size rows.length (.slice base rows.length rows.length)).run P w.drew = .ok ocs.toArray w.drew ∧
        ∀ (i : Nat) (row : List PV) (j : Nat) (p : PV), rows[i]? = some row → row[j]? = some p → PR w (Av Γ.X β) p (ocs.getD (i * (sz + 1) + j) undef) ∧ (ocs.getD (i * (sz + 1) + j) undef).oneCell' = true := by
    cases hx with
    | pure _ _ hp =>
    cases hp with
    | slcnil => exact ⟨none, rfl, .slnil _, by simp, [], by simp, run_firstCells_none w.drew _ _ _ _, by simp⟩
    | slc _ _ a us hm hs0 hb hl hr hp =>
      refine ⟨some a, rfl, .sl _ _ a _ us (Nat.le_refl _) hm hs0 hb hl hr hp, hl, (List.range (rows.length * (sz + 1))).map fun y => us (y / (sz + 1)) (y % (sz + 1)), by simp, ?_, fun x row j p hx' hj => ?_⟩
      · rw [hsz]
        simp only [Builtin.firstCells]
        refine run_loadCells (P := P) w.drew _ (rows.length * (sz + 1)) _ fun y hy => ?_
        have hi : y / (sz + 1) < rows.length := (Nat.div_lt_iff_lt_mul (by omega)).2 hy
        have hrl := hl _ _ (List.getElem?_eq_getElem hi)
        have hjl : y % (sz + 1) < rows[y / (sz + 1)].length := by rw [hrl]; exact Nat.mod_lt _ (by omega)
        have := (hr _ _ _ _ (List.getElem?_eq_getElem hi) (List.getElem?_eq_getElem hjl)).1
        rw [show y / (sz + 1) * (sz + 1) + y % (sz + 1) = y by rw [Nat.mul_comm, Nat.div_add_mod]] at this
        exact this
      · have hrl := hl x row hx'
        have hxl := (List.getElem?_eq_some_iff.1 hx').1
        have hyl : j < sz + 1 := by have := (List.getElem?_eq_some_iff.1 hj).1; omega
        have hm2 : x * (sz + 1) + (sz + 1) ≤ rows.length * (sz + 1) := by rw [← Nat.succ_mul]; exact Nat.mul_le_mul_right _ (by omega)
        have q1 : (x * (sz + 1) + j) / (sz + 1) = x := by rw [Nat.mul_comm, Nat.mul_add_div (by omega), Nat.div_eq_of_lt hyl]; omega
        have q2 : (x * (sz + 1) + j) % (sz + 1) = j := by rw [Nat.mul_comm, Nat.mul_add_mod]; exact Nat.mod_eq_of_lt hyl
        have e1 : ((List.range (rows.length * (sz + 1))).map fun y => us (y / (sz + 1)) (y % (sz + 1))).getD (x * (sz + 1) + j) undef = us x j := by
          rw [List.getD, List.getElem?_map, List.getElem?_range (by omega)]
          simp only [Option.map_some, Option.getD_some, q1, q2]
        rw [e1]
        exact ⟨hp x row j p hx' hj, (hr x row j p hx' hj).2⟩
  obtain ⟨base, rfl, hsl, ho1, ocs, ho3, ho4, ho5⟩ := hux
  obtain ⟨c, hK⟩ := hK
  cases c with
  | true =>
    obtain ⟨hn, hK⟩ := hK
    have hnil : news = [] := List.length_eq_zero_iff.1 hn
    subst hnil
    have hcs : cs.toList = [] := List.length_eq_zero_iff.1 (by simp [c2])
    rw [hcs] at hsrc
    have hr := run_append_nothing (P := P) w t tx ty e i ht hi base rows.length rows.length (Nat.le_refl _) uy hsrc
    exact ⟨_, [], _, w, β, hK, hr, h, .pure _ _ hsl, by simp [AV.keys]⟩
  | false =>
    obtain ⟨hn0, hb1, hb2, hK⟩ := hK
    have hr := run_append_grow_src (P := P) w t tx ty e i zv ht hi hzv base rows.length rows.length ocs ho4 uy news.length cs.toList hsrc (by omega) (by omega) (by rw [hbyi]; exact growslice_fits (by omega) hb1)
    have hge := grownCap_ge w (rows.length + news.length) rows.length e
    have hle := grownCap_le_maxLen w (rows.length + news.length) rows.length e (by unfold maxLen; omega)
    have hget : ∀ (y : Nat), y < (rows.length + news.length) * (sz + 1) → (((ocs ++ cs.toList).toArray ++ Builtin.zeroCells zv.cells (grownCap w (rows.length + news.length) rows.length e - (rows.length + news.length)))).getD y undef = if y < rows.length * (sz + 1) then ocs.getD y undef else cs.getD (y - rows.length * (sz + 1)) undef := fun y hy => by
      rw [Array.getD_eq_getD_getElem?, Array.getElem?_append_left (by simp [ho3, c2]; rw [Nat.add_mul] at hy; exact hy)]
      simp only [List.getElem?_toArray]
      by_cases hyl : y < rows.length * (sz + 1)
      · rw [if_pos hyl, List.getElem?_append_left (by omega)]; simp [List.getD]
      · rw [if_neg hyl, List.getElem?_append_right (by omega), ho3]; simp [Array.getD_eq_getD_getElem?]
    obtain ⟨β', q1, q2⟩ := row_out h (w1 := w.drew) rfl rfl tpr rfl hd hdfx e (sz := sz + 1) (rows := rows ++ news)
      (cs := (ocs ++ cs.toList).toArray ++ Builtin.zeroCells zv.cells (grownCap w (rows.length + news.length) rows.length e - (rows.length + news.length))) (0, 0) (NF.zero _) (by omega)
      (fun x row hx => by
        rw [List.getElem?_append] at hx
        split at hx
        · exact ho1 x row hx
        · exact g2 _ row hx)
      (fun x row y p hx hy => by
        have hxl := (List.getElem?_eq_some_iff.1 hx).1
        simp only [List.length_append] at hxl
        rw [List.getElem?_append] at hx
        have hrl : row.length = sz + 1 := by
          split at hx
          · exact ho1 x row hx
          · exact g2 _ row hx
        have hyl : y < sz + 1 := by have := (List.getElem?_eq_some_iff.1 hy).1; omega
        have hm1 : x * (sz + 1) + (sz + 1) ≤ (rows.length + news.length) * (sz + 1) := by rw [← Nat.succ_mul]; exact Nat.mul_le_mul_right _ (by omega)
        rw [hget _ (by omega)]
        split at hx
        · have hm2 : x * (sz + 1) + (sz + 1) ≤ rows.length * (sz + 1) := by rw [← Nat.succ_mul]; exact Nat.mul_le_mul_right _ (by omega)
          rw [if_pos (by omega)]
          exact ho5 x row y p hx hy
        · have hm2 : rows.length * (sz + 1) ≤ x * (sz + 1) := Nat.mul_le_mul_right _ (by omega)
          rw [if_neg (by omega)]
          have e1 : x * (sz + 1) + y - rows.length * (sz + 1) = (x - rows.length) * (sz + 1) + y := by rw [Nat.sub_mul]; omega
          rw [e1]
          exact hc3 _ row y p hx hy)
      (cap := grownCap w (rows.length + news.length) rows.length e) (by simp; omega)
      (by
        simp only [Array.size_append, List.size_toArray, List.length_append, ho3, Array.length_toList, c2, size_zeroCells, hzs]
        rw [← Nat.add_mul, ← Nat.add_mul]
        exact Nat.mul_le_mul_right _ (by omega)) hle
    exact ⟨_, _, _, _, β', hK, hr, by simpa [St.acts, St.act] using q1, by simpa using q2, by simp [AV.keys, St.acts, St.act, St.new]⟩
theorem more7_ok0 {md : Bool} : MoreOK0 (more7 md Γ.P Γ.fx) Γ := by
  intro F hF n s a w β o K hK h ho next Q hk
  have old : more6 md Γ.P Γ.fx s o K → o.wpIn F n Γ.P a w next Q := fun hK => more6_ok0 F hF n s a w β o K hK h ho next Q hk
  have hd : a.defers = a.defers := rfl
  have fin : ∀ (S : Sem Value), (execOp a.eval o) = (do pure (.value (← S))) → (∀ c, o.op ≠ .defer c) → Out Γ s a.tmps K (S.run Γ.P w) → o.wpIn F n Γ.P a w next Q := by
    rintro S he hnd ⟨v, acts, u, w', β', hKv, hr, hR, hv, hkv⟩
    refine wpIn_of_run hF hnd (v := u) (w' := w') ?_ (hk v acts _ w' hKv (putD_R hd hR ho hv hkv))
    rw [he, Sem.run_bind, hr, Result.andThen_ok]
    rfl
  have opt : ∀ x : Option Operand, optAR Γ w β (x.map s.geto) (x.map a.eval) := fun x => by
    cases x with
    | none => exact trivial
    | some x => exact geto_AR h x
  unfold more7 at hK
  split at hK
  · rename_i t x lo hi mx hx
    split at hK
    · rename_i sz rows hw
      obtain ⟨e1, e2⟩ := capWant_spec hw
      have hxa := geto_AR h x
      rw [e1] at hxa
      have e3 : lo.map a.eval = none := by cases lo with
        | none => rfl
        | some y => simp at e2
      have e4 : mx.map a.eval ≠ none := by
        cases mx with
        | none => exact absurd hw (by unfold capWant; cases lo <;> simp)
        | some y => simp
      exact fin (Instr.sliceAt t (a.eval x) none (hi.map a.eval) (mx.map a.eval)) (by simp only [execOp, hx, e3]) (by rw [hx]; intro c; simp) (sliceC_sound h hxa (opt hi) (opt mx) e4 hK)
    · exact old hK
  · rename_i c hx
    split at hK
    · rename_i x y t tx hc
      obtain ⟨e0, e1, e2⟩ := appArgs_spec hc
      split at hK
      · rename_i sz rows hw
        split at hK
        case h_2 => exact hK.elim
        rename_i hsk
        split at hK
        case h_2 => exact hK.elim
        obtain ⟨h1, h2, hK⟩ := guardNew_spec hK
        have hxa := geto_AR h x
        rw [slcOf_spec hw] at hxa
        refine fin (Builtin.append_ #[t, tx] o.type #[a.eval x, a.eval y]) ?_ (by rw [hx]; intro c; simp) (appendC_sound h hsk h1 h2 hxa (geto_AR h y) hK)
        simp only [execOp, hx, resolve, e0, e1, e2, invoke, builtin]
        simp
      · exact old hK
    · exact old hK
  · exact old hK
end
theorem more7_ok {Γ : Ctx} {md : Bool} : MoreOK (more7 md Γ.P Γ.fx) Γ := fun X w β => more7_ok0 (Γ := Γ.here X w β)
theorem more7_det {P : Program} {fx : List Nat} : DetM (more7 true P fx) := by
  intro s s' o ha K h
  have old : more6 true P fx s o K → ∃ v acts, K v acts ∧ more6 true P fx s' o (fun v' a' => v' = v ∧ a' = acts) := fun h => more6_det s s' o ha K h
  have hg := ha.get
  have hb := ha.blk
  unfold more7 at h ⊢
  split at h
  · rename_i t x lo hi mx hx
    rw [hx] at hg
    have mem : ∀ y, y = x ∨ some y = lo ∨ some y = hi ∨ some y = mx → s'.geto y = s.geto y := fun y hy => hg y (by
      simp only [Op.operands]
      rcases hy with rfl | hy | hy | hy <;> (try subst hy) <;> simp)
    have mo : ∀ z : Option Operand, (z = lo ∨ z = hi ∨ z = mx) → z.map s'.geto = z.map s.geto := fun z hz => by
      cases z with
      | none => rfl
      | some y => simp only [Option.map_some, mem y (.inr hz)]
    rw [mem x (.inl rfl), mo lo (.inl rfl), mo hi (.inr (.inl rfl)), mo mx (.inr (.inr rfl))]
    split at h
    · unfold opSliceC at h ⊢
      split at h
      case h_2 => exact h.elim
      split at h
      case h_2 => exact h.elim
      obtain ⟨l, m, n, ⟨e1, e2, h1⟩, h2⟩ := boundsVC_det h
      exact ⟨_, _, h1, boundsVC_mono (fun l' m' n' hh => by obtain ⟨rfl, rfl, rfl⟩ := hh; exact ⟨e1, e2, rfl, rfl⟩) h2⟩
    · exact old h
  · rename_i c hx
    split at h
    · rename_i x y t tx hc
      obtain ⟨e0, e1, e2⟩ := appArgs_spec hc
      rw [hx] at hg hb
      simp only [Op.operands, Call.operands, e0, e1, Array.mem_append, List.mem_toArray, List.mem_cons, List.not_mem_nil, or_false, false_or] at hg hb
      rw [hg x (by simp)]
      split at h
      · split at h
        case h_2 => exact h.elim
        split at h
        · rename_i d hd
          rw [hg y (by simp)]
          refine guardNew_det (ha.fresh d hd) (fun K h => ?_) K h
          unfold opAppendC at h ⊢
          split at h
          case h_2 => exact h.elim
          split at h
          case h_2 => exact h.elim
          split at h
          case h_2 => exact h.elim
          split at h
          case h_2 => exact h.elim
          split at h
          case h_2 => exact h.elim
          try simp only
          rw [srcRows_frame (hb y (by simp))]
          split at h
          case h_2 => exact h.elim
          split at h
          case h_2 => exact h.elim
          obtain ⟨c, h⟩ := h
          cases c with
          | true => exact ⟨_, _, h.2, true, h.1, rfl, rfl⟩
          | false => exact ⟨_, _, h.2.2.2, false, h.1, h.2.1, h.2.2.1, rfl, rfl⟩
        · exact h.elim
      · exact old h
    · exact old h
  · exact old h
end Go.Avc
/- Arrays of numbers are compared. Conditions: none. -/
namespace Go.Avc
open Go.RowKit
set_option linter.unusedSimpArgs false
theorem part_at {P : Program} {e : TypeId} {k : IntKind} (ha : aggOf P e = some false) (xs : List Int) {i : Nat} (hi : i < xs.length) (w : World) : (part e (xs.map (Value.int k)).toArray (i * 1)).run P w = .ok (.int k xs[i]) w := by
  simp only [part, Sem.run_bind, aggOf_some ha, Result.andThen_ok, Bool.false_eq_true, if_false, Nat.mul_one]
  simp [hi]
theorem equal_loop {P : Program} {e : TypeId} {k : IntKind} (he : P.underlying e = some (.int k)) (ha : aggOf P e = some false) (xs ys : List Int) (n : Nat) (hx : xs.length = n) (hy : ys.length = n) (d : Nat) (w : World) : ∀ (m i : Nat), i + m = n →
    (forIn (List.range' i m 1) ((none : Option Bool), ()) fun i _ => do
        let a ← part e (xs.map (Value.int k)).toArray (i * 1)
        let b ← part e (ys.map (Value.int k)).toArray (i * 1)
        let c ← Op.equalIn (d + 1) e a b
        if (!c) = true then pure (ForInStep.done (some false, ())) else pure (ForInStep.yield ((none : Option Bool), ()))).run P w = .ok (if xs.drop i = ys.drop i then (none, ()) else (some false, ())) w
  | 0, i, h => by
    rw [List.drop_eq_nil_of_le (by omega), List.drop_eq_nil_of_le (by omega), if_pos rfl]
    simp
  | m + 1, i, h => by
    have hi : i < xs.length := by omega
    have hj : i < ys.length := by omega
    rw [List.range'_succ, List.forIn_cons]
    simp only [Sem.run_bind, part_at ha xs hi, part_at ha ys hj, Result.andThen_ok]
    have hq : (Op.equalIn (d + 1) e (.int k xs[i]) (.int k ys[i])).run P w = .ok (xs[i] == ys[i]) w := by
      simp only [Op.equalIn, Sem.run_bind, run_underlying he, Result.andThen_ok, if_true, Sem.run_pure]
    rw [hq, Result.andThen_ok]
    by_cases e0 : xs[i] = ys[i]
    · rw [show (xs[i] == ys[i]) = true by simp [e0]]
      simp only [Bool.not_true, Bool.false_eq_true, if_false, Sem.run_pure, Result.andThen_ok]
      have := equal_loop he ha xs ys n hx hy d w m (i + 1) (by omega)
      rw [this]
      rw [List.drop_eq_getElem_cons hi, List.drop_eq_getElem_cons hj, e0]
      simp only [List.cons.injEq, true_and]
    · rw [show (xs[i] == ys[i]) = false by simp [e0]]
      simp only [Bool.not_false, if_true, Sem.run_pure, Result.andThen_ok]
      rw [if_neg (by rw [List.drop_eq_getElem_cons hi, List.drop_eq_getElem_cons hj]; simp only [List.cons.injEq, e0, false_and, not_false_eq_true])]
theorem equal_arr {P : Program} {t e : TypeId} {n : Nat} {k : IntKind} (ht : P.underlying t = some (.array n e)) (he : P.underlying e = some (.int k)) (hsz : szOf P e = some 1) (ha : aggOf P e = some false) (xs ys : List Int) (hx : xs.length = n) (hy : ys.length = n) (d : Nat) (w : World) :
    (Op.equalIn (d + 2) t (.agg (xs.map (Value.int k)).toArray) (.agg (ys.map (Value.int k)).toArray)).run P w = .ok (decide (xs = ys)) w := by
  unfold Op.equalIn
  simp only [Sem.run_bind, run_underlying ht, Result.andThen_ok, run_sizeOf hsz]
  rw [Std.Legacy.Range.forIn_eq_forIn_range']
  have := equal_loop he ha xs ys n hx hy d w n 0 (by omega)
  rw [show [:n].start = 0 from rfl, show [:n].step = 1 from rfl, show [:n].size = n by simp [Std.Legacy.Range.size], this]
  by_cases e0 : xs = ys
  · subst e0; simp
  · simp [e0]
theorem guard_arr {P : Program} {t e : TypeId} {n : Nat} {k : IntKind} (ht : P.underlying t = some (.array n e)) (he : P.underlying e = some (.int k)) (d : Nat) : P.eqGuardType (d + 2) t = false := by
  unfold Program.eqGuardType
  rw [ht]
  simp only
  unfold Program.eqGuardType
  rw [he]
theorem arrEq {P : Program} {t e : TypeId} {n : Nat} {k : IntKind} (ht : P.underlying t = some (.array n e)) (he : P.underlying e = some (.int k)) (hsz : szOf P e = some 1) (ha : aggOf P e = some false) (xs ys : List Int) (hx : xs.length = n) (hy : ys.length = n) {d : Nat} (hd : P.depth = d + 2) :
    aggEq P t (xs.map (Value.int k)).toArray (ys.map (Value.int k)).toArray (decide (xs = ys)) := by
  intro w
  refine ⟨?_, equal_arr ht he hsz ha xs ys hx hy 9998 w⟩
  simp only [eqGuard, Sem.run_bind]
  simp [run_program, hd, guard_arr ht he]
end Go.Avc
/- Sorting a row of one's own: the contract of slices.SortFunc as a contract with blocks. Conditions: none. -/
namespace Go.Avc
open Go.RowKit
open Go.Shelf (Ren)
open Go.Proofs (CmpLays sortWorldK ltOf)
open Go.Sort (SWO PermIn SortedIn HoldsK flatK putRowK)

/-- An element as it is known and as it lies in memory. -/
def SEl (w : World) (A : Nat → Prop) (k : Nat) {β : Type} (pv : β → List PV) (d : List β) : Type :=
  { a : β × List Value // a.1 ∈ d ∧ a.2.length = k ∧ (∀ v ∈ a.2, v.oneCell' = true) ∧ ∀ (j : Nat) (p : PV), (pv a.1)[j]? = some p → PR w A p (a.2.getD j undef) }

theorem kp_grow {w w' : World} (h : Kp (fun _ => False) w w') : ∃ q os', w' = Sort.grow (w.drewN q) os' := by
  refine ⟨w'.drawn - w.drawn, w'.heap.extract w.heap.size w'.heap.size, ?_⟩
  have hd := h.tape.le
  have hh : w'.heap = w.heap ++ w'.heap.extract w.heap.size w'.heap.size := by
    apply Array.ext_getElem?
    intro b
    by_cases hb : b < w.heap.size
    · rw [h.block b hb (fun e => e), Array.getElem?_append_left hb]
    · have hs := h.size
      rw [Array.getElem?_append_right (by omega)]
      by_cases hb2 : b < w'.heap.size
      · rw [Array.getElem?_extract]; simp; rw [if_pos (by omega)]; congr 1; omega
      · rw [Array.getElem?_eq_none (by omega), Array.getElem?_eq_none (by simp; omega)]
  have e1 := h.os; have e2 := h.tape.eq; have e3 := h.output
  cases w'; cases w
  simp only [Sort.grow, World.drewN] at *
  subst e1 e2 e3
  congr 1
  · omega

theorem getD_rangeL {α : Type} (f : Nat → α) (k j : Nat) (z : α) (h : j < k) : ((List.range k).map f).getD j z = f j := by
  simp [List.getD_eq_getElem?_getD, List.getElem?_map, List.getElem?_range h]

set_option maxHeartbeats 4000000 in
theorem sort_spec {P : Program} {ρ : Ren} (L : Go.Proofs.SlLaysF0.n6 P ρ) {k : Nat} (aE : ∀ w, (Go.isAgg (ρ.t 24)).run P w = .ok true w) (zE : ∀ w, (Go.sizeOf (ρ.t 24)).run P w = .ok k w)
    {β : Type} (pv : β → List PV) (cmp : β → β → Int) (hO : SWO fun x y : β => decide (cmp x y < 0)) (g : FuncId) (d d' : List β)
    (hcmp : ∀ x ∈ d, ∀ y ∈ d, PSpec P g [.agg (pv x), .agg (pv y)] (.int (cmp x y))) (hn : 0 < d.length) (hn2 : d.length < 4611686018427387904)
    (hu : ∀ r : List β, r.Perm d → r.Pairwise (fun x y => ¬ cmp y x < 0) → r = d') (K : Nat) :
    GSpec P (ρ.f 6) 2 ⟨numE 0 [.lsl K 0 d.length, .fn g []], [(K, some (.row k (d.map pv)))], [K]⟩ [K] 0 ⟨[], [(K, some (.row k (d'.map pv)))], [K]⟩ := by
  refine ⟨fun vs w => L.f6.enters rfl vs w, fun w X β0 vs h => ?_⟩
  obtain ⟨bi, hb, hbo⟩ := h.live (k := K) (blk := .row k (d.map pv)) (by simp [St.blk, lk])
  obtain ⟨g1, g2, g3, g4, g5⟩ := hbo
  have hlen : ∀ x ∈ d, (pv x).length = k := fun x hx => by
    obtain ⟨i, hi, rfl⟩ := List.getElem_of_mem hx
    exact g4 i (pv d[i]) (by simp [hi])
  rcases g5 with ⟨_, he⟩ | ⟨hv, cs, e, fz, c1, c2, c3, c4, c5⟩
  · have := congrArg List.length he
    simp at this; subst this; simp at hn
  have h1 : AR w (Av X β0) β0 (.lsl K 0 d.length) (vs.getD 0 undef) := h.slots 0
  have h2 : AR w (Av X β0) β0 (.fn g []) (vs.getD 1 undef) := h.slots 1
  obtain ⟨cap, hs0⟩ : ∃ cap, vs.getD 0 undef = .slice (some ⟨bi.b, 0, none⟩) d.length cap := by
    generalize vs.getD 0 undef = u at h1
    generalize d.length = n at h1 hn ⊢
    cases h1 with
    | lsl _ _ _ bi' cap hb' => rw [hb] at hb'; cases hb'; exact ⟨cap, by simp⟩
    | lslV => omega
    | lslDead _ _ _ _ hb' => rw [hb] at hb'; cases hb'
  have hs1 : vs.getD 1 undef = .func (.func g) #[] #[] := by
    generalize vs.getD 1 undef = u at h2
    generalize hc : ([] : List AV) = cs' at h2
    cases h2 with
    | fn _ _ vs' hl hp =>
      subst hc
      have : vs' = #[] := Array.eq_empty_of_size_eq_zero (by simpa using hl.1)
      rw [this]
    | bm => cases hc
  have hsz : vs.size = 2 := h.size
  have hcs : d.length * k ≤ cs.size := by rw [← c3]; simpa using c4
  have hel : ∀ (i : Nat) (hi : i < d.length), d[i] ∈ d ∧ ((List.range k).map fun j => cs.getD (i * k + j) undef).length = k ∧ (∀ v ∈ (List.range k).map fun j => cs.getD (i * k + j) undef, v.oneCell' = true) ∧
      ∀ (j : Nat) (p : PV), (pv d[i])[j]? = some p → PR w (Av X β0) p (((List.range k).map fun j => cs.getD (i * k + j) undef).getD j undef) := fun i hi => by
    have hr : (d.map pv)[i]? = some (pv d[i]) := by simp [hi]
    have hl := hlen d[i] (List.getElem_mem _)
    refine ⟨List.getElem_mem _, by simp, fun v hv => ?_, fun j p hp => ?_⟩
    · obtain ⟨j, hj, rfl⟩ := List.mem_map.1 hv
      have hj : j < (pv d[i]).length := by rw [hl]; simpa using hj
      exact (c5 i _ j _ hr (List.getElem?_eq_getElem hj)).2
    · have hj : j < k := by rw [← hl]; exact (List.getElem?_eq_some_iff.1 hp).1
      rw [getD_rangeL _ _ _ _ hj]
      exact (c5 i _ j p hr hp).1
  let el : Fin d.length → SEl w (Av X β0) k pv d := fun i => ⟨(d[i.1], (List.range k).map fun j => cs.getD (i.1 * k + j) undef), hel i.1 i.2⟩
  haveI : Inhabited (SEl w (Av X β0) k pv d) := ⟨el ⟨0, hn⟩⟩
  let enc : SEl w (Av X β0) k pv d → List Value := fun a => a.1.2
  obtain ⟨darr, hda⟩ : ∃ darr : Array (SEl w (Av X β0) k pv d), darr = Array.ofFn el := ⟨_, rfl⟩
  have hds : darr.size = d.length := by rw [hda]; simp
  have hdg : ∀ (i : Nat) (hi : i < d.length), darr[i]! = el ⟨i, hi⟩ := fun i hi => by rw [getElem!_pos darr i (by omega)]; simp [hda]
  have hblk : bi.b < w.heap.size := h.lt K bi hb hv
  have hH : HoldsK enc k w bi.b 0 darr := fun j hj => by
    rw [Sort.size_flatK, hds] at hj
    have hi : j / k < d.length := (Nat.div_lt_iff_lt_mul g2).2 hj
    rw [Sort.get_flatK _ _ _ _ (by rw [hds]; exact hj), hdg _ hi, Nat.zero_add]
    have hjm : j % k < k := Nat.mod_lt _ g2
    have e1 : ((enc (el ⟨j / k, hi⟩))[j % k]! : Value) = cs.getD j undef := by
      show ((List.range k).map fun x => cs.getD (j / k * k + x) undef)[j % k]! = _
      rw [getElem!_pos _ _ (by simpa using hjm)]
      simp only [List.getElem_map, List.getElem_range]
      rw [Nat.mul_comm, Nat.div_add_mod]
    refine ⟨(getD_cell c1 (by omega)).trans (by rw [id, e1]), ?_⟩
    have := c2 j (by omega)
    simp only [World.frozen?, c1]
    simpa using this
  have heap1 : ∀ (W : World) (F : Array Value) (b : Nat), b ≠ bi.b → (Sort.putRow id W bi.b 0 F).heap[b]? = W.heap[b]? := fun W F b hne => by
    simp only [Sort.putRow, Sort.mapBlock, Array.getElem?_modify, if_neg (Ne.symm hne)]
  have hav : Av X β0 bi.b := .inr ⟨K, bi, hb, hv, rfl⟩
  have hcl : CmpLays P g #[] enc k (fun a b => cmp a.1.1 b.1.1) bi.b 0 darr.size w := fun m os dk hs x y => by
    have had : Ad w (Av X β0) (sortWorldK enc k w bi.b 0 m dk os) (fun _ => False) := by
      refine ⟨by unfold sortWorldK putRowK; rw [Sort.size_grow, Sort.size_putRow]; exact Nat.le_add_right _ _, fun b hlt hA => ⟨?_, fun h => h⟩⟩
      have hne : b ≠ bi.b := fun e => hA (e ▸ hav)
      unfold sortWorldK putRowK
      rw [Sort.heap_grow_old _ _ (by rw [Sort.size_putRow]; exact hlt), heap1 _ _ _ hne]
      rfl
    have hc := (hcmp x.1.1 x.2.1 y.1.1 y.2.1).2 (sortWorldK enc k w bi.b 0 m dk os) (fun _ => False) #[.agg (enc x).toArray, .agg (enc y).toArray] (h.glob.mono had) rfl (fun j p hj => by
      have agg : ∀ z : SEl w (Av X β0) k pv d, PR (sortWorldK enc k w bi.b 0 m dk os) (fun _ => False) (.agg (pv z.1.1)) (.agg (enc z).toArray) := fun z => by
        refine .agg _ _ (by simp [enc, z.2.2.1, hlen _ z.2.1]) fun j p hp => ?_
        have := (z.2.2.2.2 j p hp).mono had
        simpa [Array.getD_eq_getD_getElem?, enc, List.getD_eq_getElem?_getD] using this
      match j, hj with
      | 0, hj => cases hj; exact agg x
      | 1, hj => cases hj; exact agg y) (fun b hb => hb.elim)
    show Calls P g (#[.agg (enc x).toArray, .agg (enc y).toArray] ++ #[]) _ _
    rw [Array.append_empty]
    refine hc.mono ?_
    rintro e w' ⟨v, rfl, hv, hk⟩
    cases hv
    exact ⟨rfl, kp_grow hk⟩
  have hcon := Go.Proofs.AnyQ.slices_SortFunc L k aE zE enc (fun a => a.2.2.1) (fun a v hv => a.2.2.2.1 v hv) (fun a b => cmp a.1.1 b.1.1)
    ⟨fun x => hO.irrefl x.1.1, fun x y z => hO.trans x.1.1 y.1.1 z.1.1, fun x y z => hO.ntrans x.1.1 y.1.1 z.1.1⟩ g #[] bi.b 0 cap darr w
    (fun a w => (hcmp _ (List.getElem_mem hn) _ (List.getElem_mem hn)).1 a w) hcl hH hblk (by omega)
  have hvs : vs = #[.slice (some ⟨bi.b, 0, none⟩) darr.size cap, .func (.func g) #[] #[]] := by
    rw [hds]
    obtain ⟨l⟩ := vs
    match l, hsz with
    | [a, b], _ =>
      simp at hs0 hs1
      rw [hs0, hs1]
  rw [hvs]
  refine hcon.mono ?_
  rintro e' w' ⟨rfl, d2, n, os, hpm, hso, rfl⟩
  obtain ⟨p1, _, p3⟩ := hpm
  have hr : d2.toList.map (fun a => a.1.1) = d' := by
    refine hu _ ?_ ?_
    · have e1 : darr.toList.map (fun a => a.1.1) = d := by
        apply List.ext_getElem
        · simp [hds]
        · intro i h1 h2
          have hi : i < d.length := by simpa [hds] using h1
          have := hdg i hi
          rw [getElem!_pos darr i (by omega)] at this
          simp only [List.getElem_map, Array.getElem_toList]
          rw [this]
      have e2 : ∀ (z : Array (SEl w (Av X β0) k pv d)), z.size = darr.size → z.extract 0 darr.size = z := fun z hz => by rw [← hz]; simp
      rw [e2 _ p1, e2 _ rfl] at p3
      have p4 := p3.map (fun a => a.1.1)
      rw [e1] at p4
      exact p4
    · rw [List.pairwise_iff_getElem]
      intro i j hi hj hij
      simp only [List.length_map, Array.length_toList] at hi hj
      have := hso i j (Nat.zero_le _) hij (by omega)
      rw [getElem!_pos d2 i hi, getElem!_pos d2 j hj] at this
      simpa [ltOf] using this
  have hd2 : d2.size = d.length := p1.trans hds
  have hh1 : (putRowK enc k (Sort.ahead w n) bi.b 0 d2).heap[bi.b]? = some (.cells (Sort.putCells id 0 (flatK enc k d2) cs) e fz) := by
    simp only [putRowK, Sort.putRow, Sort.mapBlock, Array.getElem?_modify, if_true]
    show Option.map _ w.heap[bi.b]? = _
    rw [c1]; rfl
  have hcz : (Sort.putCells id 0 (flatK enc k d2) cs).size = cs.size := by simp [Sort.putCells]
  have hup := h.upd (w' := putRowK enc k (Sort.ahead w n) bi.b 0 d2) hb hv (by unfold putRowK; rw [Sort.size_putRow]; rfl) (fun b hne => heap1 _ _ _ hne) rfl ⟨rfl, Nat.le_add_right _ _⟩ rfl (blk := .row k (d'.map pv)) (by simp [Blk.keys]) fun had =>
    ⟨g1, g2, by rw [← g3, ← hr]; simp [hd2], fun i row hi => by
      rw [List.getElem?_map, Option.map_eq_some_iff] at hi
      obtain ⟨x, hx, rfl⟩ := hi
      rw [← hr, List.getElem?_map, Option.map_eq_some_iff] at hx
      obtain ⟨a, _, rfl⟩ := hx
      exact hlen _ a.2.1, .inr ⟨hv, _, e, fz, hh1, fun j hj => c2 j (by omega), c3.trans hcz.symm, by rw [c3]; rw [← hr]; simpa [hd2] using hcs, fun i row j p hi hp => by
      rw [List.getElem?_map, Option.map_eq_some_iff] at hi
      obtain ⟨x, hx, rfl⟩ := hi
      rw [← hr, List.getElem?_map, Option.map_eq_some_iff] at hx
      obtain ⟨a, ha, rfl⟩ := hx
      have hi2 : i < d2.size := by simpa using (List.getElem?_eq_some_iff.1 ha).1
      have ha2 : d2[i]! = a := by
        rw [getElem!_pos d2 i hi2]
        simpa using (List.getElem?_eq_some_iff.1 ha).2
      have hj : j < k := by rw [← hlen _ a.2.1]; exact (List.getElem?_eq_some_iff.1 hp).1
      have hx : i * k + j < d2.size * k := by
        have := Nat.mul_le_mul_right k (show i + 1 ≤ d2.size from hi2)
        rw [Nat.add_mul, Nat.one_mul] at this; omega
      have hval : (Sort.putCells id 0 (flatK enc k d2) cs).getD (i * k + j) undef = a.1.2.getD j undef := by
        have q1 : (i * k + j) / k = i := by rw [Nat.mul_comm, Nat.mul_add_div g2, Nat.div_eq_of_lt hj]; omega
        have q2 : (i * k + j) % k = j := by rw [Nat.mul_comm, Nat.mul_add_mod]; exact Nat.mod_eq_of_lt hj
        rw [Array.getD_eq_getD_getElem?]
        have hx3 : i * k + j < cs.size := by rw [hd2] at hx; omega
        simp only [Sort.putCells, Array.getElem?_mapIdx, Array.getElem?_eq_getElem hx3, Option.map_some, Option.getD_some]
        rw [if_pos ⟨Nat.zero_le _, by rw [Sort.size_flatK]; omega⟩, Nat.sub_zero, id, Sort.get_flatK _ _ _ _ hx, q1, q2, ha2]
        rw [getElem!_pos (enc a) j (show j < (enc a).length by rw [show (enc a).length = k from a.2.2.1]; exact hj)]
        simp [enc, List.getD_eq_getElem?_getD, a.2.2.1, hj]
      rw [hval]
      refine ⟨(a.2.2.2.2 j p hp).mono had, a.2.2.2.1 _ ?_⟩
      rw [List.getD_eq_getElem?_getD, List.getElem?_eq_getElem (by rw [a.2.2.1]; exact hj)]
      exact List.getElem_mem _⟩⟩
  have hsz1 : (putRowK enc k (Sort.ahead w n) bi.b 0 d2).heap.size = w.heap.size := by unfold putRowK; rw [Sort.size_putRow]; rfl
  have hx := hup.ext (w' := sortWorldK enc k w bi.b 0 n d2 os) ⟨rfl, ⟨rfl, Nat.le_refl _⟩, rfl, by unfold sortWorldK; rw [Sort.size_grow]; exact Nat.le_add_right _ _, fun b hlt _ => by unfold sortWorldK; rw [Sort.heap_grow_old _ _ hlt]⟩
  have hbe : ∀ j, St.blk ⟨[], [(K, some (.row k (d'.map pv)))], [K]⟩ j = (St.set ⟨numE 0 [.lsl K 0 d.length, .fn g []], [(K, some (.row k (d.map pv)))], [K]⟩ K (.row k (d'.map pv))).blk j := fun j => by
    simp only [St.blk, St.set, lk_cons]
    by_cases e : K = j
    · simp [e]
    · simp [e, lk]
  refine ⟨#[], β0, by simp, ?_⟩
  exact
  { size := rfl
    slots := fun t => .junk _
    blks := fun j => by rw [hbe]; exact hx.blks j
    inj := hx.inj
    lt := hx.lt
    notX := hx.notX
    own := hx.own
    fixd := hx.fixd
    used1 := fun t j hj => by simp [St.get, lk, AV.keys] at hj
    used2 := fun j b hj => by rw [hbe] at hj; exact hx.used2 j b hj
    keep := hx.keep
    Xlt := hx.Xlt
    glob := hx.glob }
end Go.Avc
