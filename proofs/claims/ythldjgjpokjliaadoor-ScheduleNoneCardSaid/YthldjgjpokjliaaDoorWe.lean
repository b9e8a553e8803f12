/- A slice of what is not changed whose room is cut off behind it, and what is appended to it. Conditions: none. -/
import Derived.Test.YthldjgjpokjliaaDoorWd
import Derived.Laws.StructEq
import Derived.MapKept
import Derived.ChangeMaps4
import Derived.WideKeyRuns
set_option linter.unusedSimpArgs false
set_option linter.unusedVariables false
set_option maxRecDepth 20000
set_option maxHeartbeats 4000000
namespace Go.Avc
open Go.RowKit
def capWant (x : AV) (lo mx : Option AV) : Option (Nat × List (List PV)) := match lo, mx with
 | none, some _ => match x with
   | .pure (.sl sz rows) => some (sz, rows)
   | _ => none
 | _, _ => none
theorem capWant_spec {x : AV} {lo mx : Option AV} {sz : Nat} {rows : List (List PV)} (h : capWant x lo mx = some (sz, rows)) : x = .pure (.sl sz rows) ∧ lo = none := by
 unfold capWant at h
 split at h
 · split at h
   · cases h; exact ⟨rfl, rfl⟩
   · cases h
 · cases h
def opSliceC (P : Program) (t : TypeId) (sz : Nat) (rows : List (List PV)) (hi mx : Option AV) (K : Kont) : Prop :=
 match P.underlying t with
 | some (.slice e) => match natEq (szOf P e) sz with
   | true => boundsVC rows.length none hi mx fun l h m => l = 0 ∧ h = m ∧ K (.pure (.slc sz (cut rows 0 h))) []
   | false => False
 | _ => False
def slcOf (x : AV) : Option (Nat × List (List PV)) := match x with
 | .pure (.slc sz rows) => some (sz, rows)
 | _ => none
theorem slcOf_spec {x : AV} {sz : Nat} {rows : List (List PV)} (h : slcOf x = some (sz, rows)) : x = .pure (.slc sz rows) := by
 unfold slcOf at h
 split at h
 · cases h; rfl
 · cases h
def opAppendC (P : Program) (t : TypeId) (sz : Nat) (rows : List (List PV)) (y : AV) (blk : Nat → Option Blk) (d : Nat) (K : Kont) : Prop :=
 match P.underlying t with
 | some (.slice e) => match szOf P e with
   | some (s + 1) => match bytesOf P e with
     | some by_ => match zeroOf P e with
      | some z => match natEq (some (s + 1)) z.length with
       | true => match srcRows y blk (s + 1) with
        | some news => match Nat.beq sz (s + 1) with
         | true => ∃ c : Bool, match c with
           | true => news.length = 0 ∧ K (.pure (.sl sz rows)) []
           | false => 0 < news.length ∧ (rows.length + news.length) * by_ ≤ 140737488355328 ∧ rows.length + news.length ≤ 140737488355328 ∧
               K (.lsl d 0 (rows.length + news.length)) [.new d (.row (s + 1) (rows ++ news))]
         | false => False
        | none => False
       | false => False
      | none => False
     | none => False
   | _ => False
 | _ => False
def appArgs (c : Call) : Option (Operand × Operand × TypeId × TypeId) := match c.callee with
 | .builtin .append => match c.args.toList, c.argTypes.toList with
   | [x, y], [t, tx] => some (x, y, t, tx)
   | _, _ => none
 | _ => none
theorem appArgs_spec {c : Call} {x y : Operand} {t tx : TypeId} (h : appArgs c = some (x, y, t, tx)) : c.callee = .builtin .append ∧ c.args = #[x, y] ∧ c.argTypes = #[t, tx] := by
 unfold appArgs at h
 split at h
 · rename_i hc
   split at h
   · rename_i ha ht
     cases h; exact ⟨hc, Array.toList_inj.1 (by simpa using ha), Array.toList_inj.1 (by simpa using ht)⟩
   · cases h
 · cases h
def more7 (md : Bool) (P : Program) (fx : List Nat) (s : St) (o : Oper) (K : Kont) : Prop :=
 match o.op with
 | .slice t x lo hi mx => match capWant (s.geto x) (lo.map s.geto) (mx.map s.geto) with
   | some (sz, rows) => opSliceC P t sz rows (hi.map s.geto) (mx.map s.geto) K
   | none => more6 md P fx s o K
 | .call c => match appArgs c with
   | some (x, y, t, tx) => match slcOf (s.geto x) with
     | some (sz, rows) => match srcKind P tx with
       | true => match o.dst with
         | some d => guardNew d s.used fx (opAppendC P t sz rows (s.geto y) s.blk d K)
         | none => False
       | false => False
     | none => more6 md P fx s o K
   | none => more6 md P fx s o K
 | _ => more6 md P fx s o K
section
variable {Γ : Ctx} {s : St} {tm : Array Value} {w : World} {β : BM} {P : Program} {K : Kont}
theorem sliceC_sound (h : Rl Γ s tm w β) {t : TypeId} {sz : Nat} {rows : List (List PV)} {u : Value} {hi mx : Option AV} {hi' mx' : Option Value} (hx : AR w (Av Γ.X β) β (.pure (.sl sz rows)) u)
   (hhi : optAR Γ w β hi hi') (hmx : optAR Γ w β mx mx') (hmx0 : mx' ≠ none) (hK : opSliceC P t sz rows hi mx K) : Out Γ s tm K ((Instr.sliceAt t u none hi' mx').run P w) := by
 unfold opSliceC at hK
 split at hK
 case h_2 => exact hK.elim
 rename_i e ht
 have hA : (Instr.sliceAt t u none hi' mx').run P w = (Instr.slice t u none hi' mx').run P w := by simp [Instr.sliceAt, run_underlying ht]
 rw [hA]
 split at hK
 case h_2 => exact hK.elim
 rename_i hsz
 have hsz := natEq_spec hsz
 have hlo : optAR Γ w β none none := trivial
 cases hx with
 | pure _ _ hp =>
 cases hp with
 | slnil =>
   obtain ⟨l, h', m, k, ⟨rfl, rfl, hk⟩, hr, b1, b2, b3, b4, _⟩ := bounds_sound (P := P) (isS := true) (len := 0) (cap := 0) (Nat.le_refl _) hlo hhi hmx hK
   have : h' = 0 := by omega
   subst h'
   have : m = 0 := by omega
   subst m
   refine Out.same h hk (u := .slice none 0 0) ?_ (.pure _ _ (by simp [cut]; exact .slcnil sz)) (by simp [AV.keys])
   simp [Instr.slice, run_underlying ht, hr, run_sizeOf hsz]
 | sl _ _ a cap us hc hm hs hb hl hr' hp =>
   obtain ⟨l, h', m, k, ⟨rfl, rfl, hk⟩, hr, b1, b2, b3, b4, _, b5⟩ := bounds_sound (P := P) (isS := true) hc hlo hhi hmx hK
   have em := b5 hmx0
   subst em
   refine Out.same h hk (u := .slice (if m = 0 then some a else some (a.add (0 * sz))) (m - 0) (m - 0)) ?_ (.pure _ _ ?_) (by simp [AV.keys])
   · simp [Instr.slice, run_underlying ht, hr, run_sizeOf hsz]
   · have hlen : (cut rows 0 m).length = m := by rw [cut_length b3]; omega
     have e : (if m = 0 then some a else some (a.add (0 * sz))) = some (if m = 0 then a else a.add (0 * sz)) := by split <;> rfl
     rw [e, Nat.sub_zero]
     have := PR.slc (w := w) (A := Av Γ.X β) sz (cut rows 0 m) (if m = 0 then a else a.add (0 * sz)) (fun x y => us (0 + x) y) (by omega) hs (fun hn => by
       rw [if_neg (by omega), block_add]; exact hb (by omega)) (fun x row hx => hl _ row (cut_get hx).1) (fun x row y p hx hy => by
       obtain ⟨hx', hxl⟩ := cut_get hx
       rw [if_neg (by omega), add_add]
       have := hr' _ row y p hx' hy
       rw [Nat.add_mul, Nat.add_assoc] at this
       exact this) (fun x row y p hx hy => hp _ row y p (cut_get hx).1 hy)
     rw [hlen] at this
     exact this
theorem appendC_sound (h : Rl Γ s tm w β) {t tx ty : TypeId} {sz0 : Nat} {rows : List (List PV)} {y : AV} {ux uy : Value} {d : Nat} (hk : srcKind P tx = true) (hd : d ∉ s.used) (hdfx : d ∉ Γ.fx) (hx : AR w (Av Γ.X β) β (.pure (.slc sz0 rows)) ux) (hy : AR w (Av Γ.X β) β y uy)
   (hK : opAppendC P t sz0 rows y s.blk d K) : Out Γ s tm K ((Builtin.append_ #[t, tx] ty #[ux, uy]).run P w) := by
 unfold opAppendC at hK
 split at hK
 case h_2 => exact hK.elim
 rename_i e ht
 split at hK
 case h_2 => exact hK.elim
 rename_i sz hs
 split at hK
 case h_2 => exact hK.elim
 rename_i by_ hby
 split at hK
 case h_2 => exact hK.elim
 rename_i z hz
 split at hK
 case h_2 => exact hK.elim
 rename_i hzl
 split at hK
 case h_2 => exact hK.elim
 rename_i news hnews
 split at hK
 case h_2 => exact hK.elim
 rename_i hse
 have hse := Nat.eq_of_beq_eq_true hse
 subst hse
 obtain ⟨i, zv, hi, hzv, rfl, hone, _⟩ := zeroOf_spec hz
 have hsz : i.size = sz + 1 := szOf_info hs hi
 have hbyi := bytesOf_info hby hi
 have hzs : zv.cells.size = sz + 1 := by have := natEq_spec hzl; simp at this; omega
 obtain ⟨g1, g2, g3⟩ := srcRows_spec h hy hnews
 obtain ⟨cs, c1, c2, c3⟩ := g3 news.length (Nat.le_refl _)
 have hsrc : Src P i.size tx uy news.length cs.toList w := by
   rw [hsz]
   exact ⟨srcKind_spec hk, g1, by rw [Array.toArray_toList]; exact c1 w rfl, by rw [Array.toArray_toList]; exact c1 w.drew rfl, by rw [Array.length_toList, c2], cells_of_rows g2 c2 c3⟩
 have hc3 : ∀ (i : Nat) (row : List PV) (j : Nat) (p : PV), news[i]? = some row → row[j]? = some p → PR w (Av Γ.X β) p (cs.getD (i * (sz + 1) + j) undef) ∧ (cs.getD (i * (sz + 1) + j) undef).oneCell' = true :=
   fun i row j p hi hj => c3 i row j p hi (List.getElem?_eq_some_iff.1 hi).1 hj
 -- how the slice lies
 have hux : ∃ base, ux = .slice base rows.length rows.length ∧ PR w (Av Γ.X β) (.sl (sz + 1) rows) ux ∧ (∀ (i : Nat) (row : List PV), rows[i]? = some row → row.length = sz + 1) ∧
     ∃ ocs : List Value, ocs.length = rows.length * (sz + 1) ∧ (Builtin.firstCells i.size rows.length (.slice base rows.length rows.length)).run P w.drew = .ok ocs.toArray w.drew ∧
       ∀ (i : Nat) (row : List PV) (j : Nat) (p : PV), rows[i]? = some row → row[j]? = some p → PR w (Av Γ.X β) p (ocs.getD (i * (sz + 1) + j) undef) ∧ (ocs.getD (i * (sz + 1) + j) undef).oneCell' = true := by
   cases hx with
   | pure _ _ hp =>
   cases hp with
   | slcnil => exact ⟨none, rfl, .slnil _, by simp, [], by simp, run_firstCells_none w.drew _ _ _ _, by simp⟩
   | slc _ _ a us hm hs0 hb hl hr hp =>
     refine ⟨some a, rfl, .sl _ _ a _ us (Nat.le_refl _) hm hs0 hb hl hr hp, hl, (List.range (rows.length * (sz + 1))).map fun y => us (y / (sz + 1)) (y % (sz + 1)), by simp, ?_, fun x row j p hx' hj => ?_⟩
     · rw [hsz]
       simp only [Builtin.firstCells]
       refine run_loadCells (P := P) w.drew _ (rows.length * (sz + 1)) _ fun y hy => ?_
       have hi : y / (sz + 1) < rows.length := (Nat.div_lt_iff_lt_mul (by omega)).2 hy
       have hrl := hl _ _ (List.getElem?_eq_getElem hi)
       have hjl : y % (sz + 1) < rows[y / (sz + 1)].length := by rw [hrl]; exact Nat.mod_lt _ (by omega)
       have := (hr _ _ _ _ (List.getElem?_eq_getElem hi) (List.getElem?_eq_getElem hjl)).1
       rw [show y / (sz + 1) * (sz + 1) + y % (sz + 1) = y by rw [Nat.mul_comm, Nat.div_add_mod]] at this
       exact this
     · have hrl := hl x row hx'
       have hxl := (List.getElem?_eq_some_iff.1 hx').1
       have hyl : j < sz + 1 := by have := (List.getElem?_eq_some_iff.1 hj).1; omega
       have hm2 : x * (sz + 1) + (sz + 1) ≤ rows.length * (sz + 1) := by rw [← Nat.succ_mul]; exact Nat.mul_le_mul_right _ (by omega)
       have q1 : (x * (sz + 1) + j) / (sz + 1) = x := by rw [Nat.mul_comm, Nat.mul_add_div (by omega), Nat.div_eq_of_lt hyl]; omega
       have q2 : (x * (sz + 1) + j) % (sz + 1) = j := by rw [Nat.mul_comm, Nat.mul_add_mod]; exact Nat.mod_eq_of_lt hyl
       have e1 : ((List.range (rows.length * (sz + 1))).map fun y => us (y / (sz + 1)) (y % (sz + 1))).getD (x * (sz + 1) + j) undef = us x j := by
         rw [List.getD, List.getElem?_map, List.getElem?_range (by omega)]
         simp only [Option.map_some, Option.getD_some, q1, q2]
       rw [e1]
       exact ⟨hp x row j p hx' hj, (hr x row j p hx' hj).2⟩
 obtain ⟨base, rfl, hsl, ho1, ocs, ho3, ho4, ho5⟩ := hux
 obtain ⟨c, hK⟩ := hK
 cases c with
 | true =>
   obtain ⟨hn, hK⟩ := hK
   have hnil : news = [] := List.length_eq_zero_iff.1 hn
   subst hnil
   have hcs : cs.toList = [] := List.length_eq_zero_iff.1 (by simp [c2])
   rw [hcs] at hsrc
   have hr := run_append_nothing (P := P) w t tx ty e i ht hi base rows.length rows.length (Nat.le_refl _) uy hsrc
   exact ⟨_, [], _, w, β, hK, hr, h, .pure _ _ hsl, by simp [AV.keys]⟩
 | false =>
   obtain ⟨hn0, hb1, hb2, hK⟩ := hK
   have hr := run_append_grow_src (P := P) w t tx ty e i zv ht hi hzv base rows.length rows.length ocs ho4 uy news.length cs.toList hsrc (by omega) (by omega) (by rw [hbyi]; exact growslice_fits (by omega) hb1)
   have hge := grownCap_ge w (rows.length + news.length) rows.length e
   have hle := grownCap_le_maxLen w (rows.length + news.length) rows.length e (by unfold maxLen; omega)
   have hget : ∀ (y : Nat), y < (rows.length + news.length) * (sz + 1) → (((ocs ++ cs.toList).toArray ++ Builtin.zeroCells zv.cells (grownCap w (rows.length + news.length) rows.length e - (rows.length + news.length)))).getD y undef = if y < rows.length * (sz + 1) then ocs.getD y undef else cs.getD (y - rows.length * (sz + 1)) undef := fun y hy => by
     rw [Array.getD_eq_getD_getElem?, Array.getElem?_append_left (by simp [ho3, c2]; rw [Nat.add_mul] at hy; exact hy)]
     simp only [List.getElem?_toArray]
     by_cases hyl : y < rows.length * (sz + 1)
     · rw [if_pos hyl, List.getElem?_append_left (by omega)]; simp [List.getD]
     · rw [if_neg hyl, List.getElem?_append_right (by omega), ho3]; simp [Array.getD_eq_getD_getElem?]
   obtain ⟨β', q1, q2⟩ := row_out h (w1 := w.drew) rfl rfl tpr rfl hd hdfx e (sz := sz + 1) (rows := rows ++ news)
     (cs := (ocs ++ cs.toList).toArray ++ Builtin.zeroCells zv.cells (grownCap w (rows.length + news.length) rows.length e - (rows.length + news.length))) (0, 0) (NF.zero _) (by omega)
     (fun x row hx => by
       rw [List.getElem?_append] at hx
       split at hx
       · exact ho1 x row hx
       · exact g2 _ row hx)
     (fun x row y p hx hy => by
       have hxl := (List.getElem?_eq_some_iff.1 hx).1
       simp only [List.length_append] at hxl
       rw [List.getElem?_append] at hx
       have hrl : row.length = sz + 1 := by
         split at hx
         · exact ho1 x row hx
         · exact g2 _ row hx
       have hyl : y < sz + 1 := by have := (List.getElem?_eq_some_iff.1 hy).1; omega
       have hm1 : x * (sz + 1) + (sz + 1) ≤ (rows.length + news.length) * (sz + 1) := by rw [← Nat.succ_mul]; exact Nat.mul_le_mul_right _ (by omega)
       rw [hget _ (by omega)]
       split at hx
       · have hm2 : x * (sz + 1) + (sz + 1) ≤ rows.length * (sz + 1) := by rw [← Nat.succ_mul]; exact Nat.mul_le_mul_right _ (by omega)
         rw [if_pos (by omega)]
         exact ho5 x row y p hx hy
       · have hm2 : rows.length * (sz + 1) ≤ x * (sz + 1) := Nat.mul_le_mul_right _ (by omega)
         rw [if_neg (by omega)]
         have e1 : x * (sz + 1) + y - rows.length * (sz + 1) = (x - rows.length) * (sz + 1) + y := by rw [Nat.sub_mul]; omega
         rw [e1]
         exact hc3 _ row y p hx hy)
     (cap := grownCap w (rows.length + news.length) rows.length e) (by simp; omega)
     (by
       simp only [Array.size_append, List.size_toArray, List.length_append, ho3, Array.length_toList, c2, size_zeroCells, hzs]
       rw [← Nat.add_mul, ← Nat.add_mul]
       exact Nat.mul_le_mul_right _ (by omega)) hle
   exact ⟨_, _, _, _, β', hK, hr, by simpa [St.acts, St.act] using q1, by simpa using q2, by simp [AV.keys, St.acts, St.act, St.new]⟩
theorem more7_ok0 {md : Bool} : MoreOK0 (more7 md Γ.P Γ.fx) Γ := by
 intro F hF n s a w β o K hK h ho next Q hk
 have old : more6 md Γ.P Γ.fx s o K → o.wpIn F n Γ.P a w next Q := fun hK => more6_ok0 F hF n s a w β o K hK h ho next Q hk
 have hd : a.defers = a.defers := rfl
 have fin : ∀ (S : Sem Value), (execOp a.eval o) = (do pure (.value (← S))) → (∀ c, o.op ≠ .defer c) → Out Γ s a.tmps K (S.run Γ.P w) → o.wpIn F n Γ.P a w next Q := by
   rintro S he hnd ⟨v, acts, u, w', β', hKv, hr, hR, hv, hkv⟩
   refine wpIn_of_run hF hnd (v := u) (w' := w') ?_ (hk v acts _ w' hKv (putD_R hd hR ho hv hkv))
   rw [he, Sem.run_bind, hr, Result.andThen_ok]
   rfl
 have opt : ∀ x : Option Operand, optAR Γ w β (x.map s.geto) (x.map a.eval) := fun x => by
   cases x with
   | none => exact trivial
   | some x => exact geto_AR h x
 unfold more7 at hK
 split at hK
 · rename_i t x lo hi mx hx
   split at hK
   · rename_i sz rows hw
     obtain ⟨e1, e2⟩ := capWant_spec hw
     have hxa := geto_AR h x
     rw [e1] at hxa
     have e3 : lo.map a.eval = none := by cases lo with
       | none => rfl
       | some y => simp at e2
     have e4 : mx.map a.eval ≠ none := by
       cases mx with
       | none => exact absurd hw (by unfold capWant; cases lo <;> simp)
       | some y => simp
     exact fin (Instr.sliceAt t (a.eval x) none (hi.map a.eval) (mx.map a.eval)) (by simp only [execOp, hx, e3]) (by rw [hx]; intro c; simp) (sliceC_sound h hxa (opt hi) (opt mx) e4 hK)
   · exact old hK
 · rename_i c hx
   split at hK
   · rename_i x y t tx hc
     obtain ⟨e0, e1, e2⟩ := appArgs_spec hc
     split at hK
     · rename_i sz rows hw
       split at hK
       case h_2 => exact hK.elim
       rename_i hsk
       split at hK
       case h_2 => exact hK.elim
       obtain ⟨h1, h2, hK⟩ := guardNew_spec hK
       have hxa := geto_AR h x
       rw [slcOf_spec hw] at hxa
       refine fin (Builtin.append_ #[t, tx] o.type #[a.eval x, a.eval y]) ?_ (by rw [hx]; intro c; simp) (appendC_sound h hsk h1 h2 hxa (geto_AR h y) hK)
       simp only [execOp, hx, resolve, e0, e1, e2, invoke, builtin]
       simp
     · exact old hK
   · exact old hK
 · exact old hK
end
theorem more7_det {P : Program} {fx : List Nat} : DetM (more7 true P fx) := by
 intro s s' o ha K h
 have old : more6 true P fx s o K → ∃ v acts, K v acts ∧ more6 true P fx s' o (fun v' a' => v' = v ∧ a' = acts) := fun h => more6_det s s' o ha K h
 have hg := ha.get
 have hb := ha.blk
 unfold more7 at h ⊢
 split at h
 · rename_i t x lo hi mx hx
   rw [hx] at hg
   have mem : ∀ y, y = x ∨ some y = lo ∨ some y = hi ∨ some y = mx → s'.geto y = s.geto y := fun y hy => hg y (by
     simp only [Op.operands]
     rcases hy with rfl | hy | hy | hy <;> (try subst hy) <;> simp)
   have mo : ∀ z : Option Operand, (z = lo ∨ z = hi ∨ z = mx) → z.map s'.geto = z.map s.geto := fun z hz => by
     cases z with
     | none => rfl
     | some y => simp only [Option.map_some, mem y (.inr hz)]
   rw [mem x (.inl rfl), mo lo (.inl rfl), mo hi (.inr (.inl rfl)), mo mx (.inr (.inr rfl))]
   split at h
   · unfold opSliceC at h ⊢
     split at h
     case h_2 => exact h.elim
     split at h
     case h_2 => exact h.elim
     obtain ⟨l, m, n, ⟨e1, e2, h1⟩, h2⟩ := boundsVC_det h
     exact ⟨_, _, h1, boundsVC_mono (fun l' m' n' hh => by obtain ⟨rfl, rfl, rfl⟩ := hh; exact ⟨e1, e2, rfl, rfl⟩) h2⟩
   · exact old h
 · rename_i c hx
   split at h
   · rename_i x y t tx hc
     obtain ⟨e0, e1, e2⟩ := appArgs_spec hc
     rw [hx] at hg hb
     simp only [Op.operands, Call.operands, e0, e1, Array.mem_append, List.mem_toArray, List.mem_cons, List.not_mem_nil, or_false, false_or] at hg hb
     rw [hg x (by simp)]
     split at h
     · split at h
       case h_2 => exact h.elim
       split at h
       · rename_i d hd
         rw [hg y (by simp)]
         refine guardNew_det (ha.fresh d hd) (fun K h => ?_) K h
         unfold opAppendC at h ⊢
         split at h
         case h_2 => exact h.elim
         split at h
         case h_2 => exact h.elim
         split at h
         case h_2 => exact h.elim
         split at h
         case h_2 => exact h.elim
         split at h
         case h_2 => exact h.elim
         try simp only
         rw [srcRows_frame (hb y (by simp))]
         split at h
         case h_2 => exact h.elim
         split at h
         case h_2 => exact h.elim
         obtain ⟨c, h⟩ := h
         cases c with
         | true => exact ⟨_, _, h.2, true, h.1, rfl, rfl⟩
         | false => exact ⟨_, _, h.2.2.2, false, h.1, h.2.1, h.2.2.1, rfl, rfl⟩
       · exact h.elim
     · exact old h
   · exact old h
 · exact old h
end Go.Avc
/- Arrays of numbers are compared. Conditions: none. -/
namespace Go.Avc
open Go.RowKit
end Go.Avc
/- Structs of numbers, strings and bools are compared. Conditions: none. -/
namespace Go.Avc
open Go.RowKit
inductive Leaf where
 | i (k : IntKind)
 | s
 | b
deriving DecidableEq
def Leaf.is : Leaf → Value → Prop
 | .i k, .int k' _ => k' = k
 | .s, .string _ => True
 | .b, .bool _ => True
 | _, _ => False
def fits : List Leaf → List Value → Prop
 | [], [] => True
 | l :: ls, v :: vs => l.is v ∧ fits ls vs
 | _, _ => False
end Go.Avc
/- Maps: made, looked into, written. Conditions: none. -/
namespace Go.Avc
open Go.RowKit
def findL {α : Type} [DecidableEq α] (a : α) : List α → List MapEntry → Nat → Option (Nat × Value)
 | k :: ks, e :: es, i => if a = k then some (i, e.val) else findL a ks es (i + 1)
 | _, _, _ => none
theorem findL_cases {α : Type} [DecidableEq α] (a : α) : ∀ (ks : List α) (es : List MapEntry) (i : Nat), ks.length = es.length →
   (findL a ks es i = none ∧ a ∉ ks) ∨ ∃ n e, findL a ks es i = some (i + n, e.val) ∧ es[n]? = some e ∧ ks[n]? = some a ∧ ∀ m, m < n → ks[m]? ≠ some a
 | [], es, i, h => .inl ⟨by unfold findL; rfl, by simp⟩
 | k :: ks, [], i, h => by simp at h
 | k :: ks, e :: es, i, h => by
   by_cases hk : a = k
   · exact .inr ⟨0, e, by simp [findL, hk], rfl, by simp [hk], by simp⟩
   · rcases findL_cases a ks es (i + 1) (by simpa using h) with ⟨h1, h2⟩ | ⟨n, e', h1, h2, h3, h4⟩
     · exact .inl ⟨by simp [findL, hk, h1], by simp [hk, h2]⟩
     · refine .inr ⟨n + 1, e', by simp [findL, hk, h1]; omega, by simpa using h2, by simpa using h3, fun m hm => ?_⟩
       cases m with
       | zero => simp [Ne.symm hk]
       | succ m => simpa using h4 m (by omega)
structure MKey (α : Type) [DecidableEq α] where
 val : α → Value
 pv : α → PV
 ok : Program → TypeId → Bool
 inv : ∀ {w : World} {A : Nat → Prop} {a : α} {v : Value}, PR w A (pv a) v → v = val a
 chk : ∀ {P : Program} {kt : TypeId}, ok P kt = true → ∀ (w : World) (b : Bool) (a : α), (Instr.checkKey b 10000 kt (val a)).run P w = .ok () w
 find : ∀ {P : Program} {kt : TypeId}, ok P kt = true → ∀ (w : World) (ks : List α) (es : List MapEntry) (a : α), es.map (·.key) = ks.map val → (Instr.findKey kt (val a) es).run P w = .ok (findL a ks es 0) w
 stays : ∀ (P : Program) (w : World) (a : α), (Instr.keyThatStays (val a) (val a)).run P w = .ok (val a) w
theorem findNow_L {α : Type} [DecidableEq α] {d : TypeDesc} {val : α → Value} (hs : ∀ a b, Instr.sameNow d (val a) (val b) = some (decide (a = b))) (a : α) : ∀ (ks : List α) (es : List MapEntry) (i : Nat), es.map (·.key) = ks.map val →
   Instr.findNow d (val a) es i = some (findL a ks es i)
 | [], es, i, h => by
   have : es = [] := by simpa using h
   subst this; rfl
 | k :: ks, [], i, h => by simp at h
 | k :: ks, e :: es, i, h => by
   simp only [List.map_cons, List.cons.injEq] at h
   simp only [Instr.findNow, h.1, hs, findL]
   by_cases hk : a = k
   · simp [hk]
   · simp only [hk, decide_false, if_false]
     exact findNow_L hs a ks es (i + 1) h.2
def intK : MKey Int where
 val n := .int .i64 n
 pv n := .int n
 ok P kt := match P.underlying kt with
   | some (.int .i64) => true
   | _ => false
 inv h := h.val_inv
 chk {P kt} h w b a := by
   have hu : P.underlying kt = some (.int .i64) := by
     split at h
     · assumption
     · cases h
   exact MapKept.run_checkKey hu (by simp [MapKept.IsKey]) b 9999
 find {P kt} h w ks es a hk := by
   have hu : P.underlying kt = some (.int .i64) := by
     split at h
     · assumption
     · cases h
   exact MapKept.run_findKey hu (findNow_L (fun a b => by simp only [Instr.sameNow, if_true]; congr 1) a ks es 0 hk)
 stays P w a := MapKept.run_keyThatStays (d := .int .i64) (by simp [MapKept.IsKey])
section
variable {α : Type} [DecidableEq α]
def MKey.enc (C : MKey α) (ms : List (α × PV)) : List (Value × PV) := ms.map fun q => (C.val q.1, q.2)
def mget (ms : List (α × PV)) (a : α) : Option PV := (ms.find? fun q => decide (q.1 = a)).map (·.2)
def mput (ms : List (α × PV)) (a : α) (v : PV) : List (α × PV) := match ms with
 | [] => [(a, v)]
 | q :: ms => if q.1 = a then (a, v) :: ms else q :: mput ms a v
theorem mget_none {ms : List (α × PV)} {a : α} (h : a ∉ ms.map (·.1)) (v : PV) : mget ms a = none ∧ mput ms a v = ms ++ [(a, v)] := by
 induction ms with
 | nil => exact ⟨rfl, rfl⟩
 | cons q ms ih =>
   simp only [List.map_cons, List.mem_cons, not_or] at h
   obtain ⟨i1, i2⟩ := ih h.2
   refine ⟨?_, by simp [mput, Ne.symm h.1, i2]⟩
   simp only [mget, List.find?_cons, Ne.symm h.1, decide_false]
   exact i1
theorem mget_some {ms : List (α × PV)} {a : α} {n : Nat} (h : (ms.map (·.1))[n]? = some a) (hm : ∀ m, m < n → (ms.map (·.1))[m]? ≠ some a) (v : PV) : ∃ p, ms[n]? = some (a, p) ∧ mget ms a = some p ∧ mput ms a v = ms.set n (a, v) := by
 induction ms generalizing n with
 | nil => simp at h
 | cons q ms ih =>
   cases n with
   | zero =>
     simp only [List.map_cons, List.getElem?_cons_zero, Option.some.injEq] at h
     subst h
     exact ⟨q.2, rfl, by simp [mget], by simp [mput]⟩
   | succ n =>
     have hne : q.1 ≠ a := fun e => hm 0 (by omega) (by simp [e])
     obtain ⟨p, i1, i2, i3⟩ := ih (n := n) (by simpa using h) (fun m hlt => by simpa using hm (m + 1) (by omega))
     refine ⟨p, by simpa using i1, ?_, by simp [mput, hne, i3]⟩
     simp only [mget, List.find?_cons, hne, decide_false]
     exact i2
def zeroPV (P : Program) (et : TypeId) : Option PV := match P.info? et with
 | some i => match i.zero with
   | some z => match P.underlying et with
     | some (.slice e) => match z with
       | .slice none 0 0 => match szOf P e with
         | some s => some (.sl s [])
         | none => none
       | _ => none
     | _ => match z with
       | .agg vs => some (.agg (vs.toList.map .val))
       | z => some (.val z)
   | none => none
 | none => none
theorem zeroPV_spec {P : Program} {et : TypeId} {p : PV} (h : zeroPV P et = some p) : ∃ z, (∀ w, (zeroValue et).run P w = .ok z w) ∧ ∀ w A, PR w A p z := by
 unfold zeroPV at h
 split at h
 case h_2 => cases h
 rename_i i hi
 split at h
 case h_2 => cases h
 rename_i z hz
 refine ⟨z, fun w => by simp [zeroValue, typeInfo, hi, hz], fun w A => ?_⟩
 split at h
 · split at h
   · split at h
     · cases h; exact .slnil _
     · cases h
   · cases h
 · split at h
   · rename_i vs
     cases h
     refine .agg _ vs (by simp) fun j q hj => ?_
     rw [List.getElem?_map, Option.map_eq_some_iff] at hj
     obtain ⟨v, hv, rfl⟩ := hj
     rw [Array.getElem?_toList] at hv
     rw [Array.getD_eq_getD_getElem?, hv]
     exact .val _
   · cases h; exact .val _
def MapIs (C : MKey α) (x : AV) (blk : Nat → Option Blk) (ms : List (α × PV)) : Prop := match x with
 | .mp k => blk k = some (.mp (C.enc ms))
 | .pure (.mp ks vs) => ks = ms.map (fun q => C.val q.1) ∧ vs = ms.map (·.2)
 | _ => False
def lookK (c : Bool) (z : PV) (r : Option PV) (K : Kont) : Prop := match c with
 | false => ∃ p, r.getD z = p ∧ K (.pure p) []
 | true => ∃ p b, r.getD z = p ∧ r.isSome = b ∧ K (.pure (.tup [p, .bool b])) []
end
def opLookup (P : Program) (t : TypeId) (x ix : AV) (c : Bool) (blk : Nat → Option Blk) (K : Kont) : Prop :=
 match P.underlying t with
 | some (.map kt et) => match zeroPV P et with
   | some z => ∃ (α : Type) (_ : DecidableEq α) (C : MKey α) (a : α) (ms : List (α × PV)), C.ok P kt = true ∧ toPV (fun _ => none) ix = some (C.pv a) ∧ MapIs C x blk ms ∧ lookK c z (mget ms a) K
   | none => False
 | _ => False
def opMapUpdate (P : Program) (t : TypeId) (x ix v : AV) (blk : Nat → Option Blk) (K : Kont) : Prop :=
 match P.underlying t with
 | some (.map kt et) => match x with
   | .mp k => match toPV (fun _ => none) v with
     | some q => ∃ (α : Type) (_ : DecidableEq α) (C : MKey α) (a : α) (ms ms' : List (α × PV)), C.ok P kt = true ∧ toPV (fun _ => none) ix = some (C.pv a) ∧ blk k = some (.mp (C.enc ms)) ∧ mput ms a q = ms' ∧ K .junk [.set k (.mp (C.enc ms'))]
     | none => False
   | _ => False
 | _ => False
def opMakeMap (P : Program) (t : TypeId) (n : Option AV) (d : Nat) (K : Kont) : Prop := match n with
 | none => K (.mp d) [.new d (.mp [])]
 | some (.pure (.val (.int _ _))) => match P.underlying t with
   | some (.map _ _) => K (.mp d) [.new d (.mp [])]
   | _ => False
 | _ => False
def more8 (md : Bool) (P : Program) (fx : List Nat) (s : St) (o : Oper) (K : Kont) : Prop :=
 match o.op with
 | .lookup t x ix c => opLookup P t (s.geto x) (s.geto ix) c s.blk K
 | .mapUpdate t m k x => opMapUpdate P t (s.geto m) (s.geto k) (s.geto x) s.blk K
 | .makeMap t r => match o.dst with
   | some d => guardNew d s.used fx (opMakeMap P t (r.map s.geto) d K)
   | none => False
 | _ => more7 md P fx s o K
section
variable {Γ : Ctx} {s : St} {tm : Array Value} {w : World} {β : BM} {P : Program} {K : Kont}
theorem makeMap_sound (h : Rl Γ s tm w β) {t : TypeId} {n : Option AV} {un : Option Value} {d : Nat} (hd : d ∉ s.used) (hdfx : d ∉ Γ.fx) (hn : optAR Γ w β n un) (hK : opMakeMap P t n d K) :
   Out Γ s tm K ((Instr.makeMap t un).run P w) := by
 have hrun : (Instr.makeMap t un).run P w = .ok (.map (some w.heap.size)) (w.alloc (.map #[] 0)) ∧ K (.mp d) [.new d (.mp [])] := by
   unfold opMakeMap at hK
   split at hK
   · cases un with
     | none => exact ⟨rfl, hK⟩
     | some u => exact hn.elim
   · cases un with
     | none => exact hn.elim
     | some u =>
       have hn : AR w (Av Γ.X β) β _ u := hn
       rw [hn.val_inv]
       split at hK
       · rename_i kt et hu
         exact ⟨by simp [Instr.makeMap, run_underlying hu, asInt, asIntOf], hK⟩
       · exact hK.elim
   · exact hK.elim
 have hn := h.newK hd hdfx ⟨w.heap.size, 1, 0, 0, false⟩ (.mp []) (w' := w.alloc (.map #[] 0)) (by simp) (fun b hb => heap_alloc_old w _ hb) rfl tpr rfl (fun _ => ⟨rfl, by simp⟩) (by simp [Blk.keys])
   (fun β' e1 e2 had => ⟨rfl, #[], 0, heap_alloc_new w _, ⟨rfl, Stamps.nil⟩, fun i e q hi hq => by simp at hi⟩)
 refine ⟨_, _, _, _, _, hrun.2, hrun.1, hn, .mp d ⟨w.heap.size, 1, 0, 0, false⟩ (by simp), ?_⟩
 intro k hk
 simp only [AV.keys, List.mem_singleton] at hk
 subst hk
 simp [St.acts, St.act, St.new]
section
variable {α : Type} [DecidableEq α] {C : MKey α}
theorem enc_get {ms : List (α × PV)} {i : Nat} : (C.enc ms)[i]? = (ms[i]?).map fun q => (C.val q.1, q.2) := by simp [MKey.enc]
theorem enc_keys {es : List MapEntry} {ms : List (α × PV)} (hl : es.length = ms.length) (hk : ∀ (i : Nat) (e : MapEntry) (q : α × PV), es[i]? = some e → ms[i]? = some q → e.key = C.val q.1) : es.map (·.key) = (ms.map (·.1)).map C.val := by
 apply List.ext_getElem?
 intro i
 simp only [List.getElem?_map]
 rcases Nat.lt_or_ge i es.length with h | h
 · rw [List.getElem?_eq_getElem h, List.getElem?_eq_getElem (show i < ms.length by omega)]
   simp only [Option.map_some]
   rw [hk i _ _ (List.getElem?_eq_getElem h) (List.getElem?_eq_getElem (by omega))]
 · rw [List.getElem?_eq_none h, List.getElem?_eq_none (show ms.length ≤ i by omega)]; rfl
end
theorem lookup_sound (h : Rl Γ s tm w β) {t : TypeId} {x ix : AV} {u v : Value} {c : Bool} (hx : AR w (Av Γ.X β) β x u) (hi : AR w (Av Γ.X β) β ix v) (hK : opLookup P t x ix c s.blk K) :
   Out Γ s tm K ((Instr.lookup t u v c).run P w) := by
 unfold opLookup at hK
 split at hK
 case h_2 => exact hK.elim
 rename_i kt et ht
 split at hK
 case h_2 => exact hK.elim
 rename_i z hz
 obtain ⟨zv, hzr, hzp⟩ := zeroPV_spec hz
 obtain ⟨α, _, C, a, ms, hok, hix, hm, hK⟩ := hK
 have hv : v = C.val a := C.inv (hi.toPV0 hix)
 subst hv
 -- how the map lies
 obtain ⟨b, es, clock, us, rfl, hb, hl, hes⟩ : ∃ b es clock, ∃ us : Nat → Value, u = .map (some b) ∧ w.heap[b]? = some (.map es clock) ∧ es.size = ms.length ∧
     ∀ (i : Nat) (e : MapEntry) (q : α × PV), es[i]? = some e → ms[i]? = some q → e.key = C.val q.1 ∧ PR w (Av Γ.X β) q.2 e.val := by
   unfold MapIs at hm
   split at hm
   · rename_i k
     obtain ⟨bi, hβ, hbk⟩ := h.live hm
     obtain ⟨h1, es, clock, h2, h3, h4⟩ := hbk
     cases hx with
     | mp _ bi' hb' =>
       rw [hβ] at hb'; cases hb'
       refine ⟨bi.b, es, clock, fun _ => undef, rfl, h2, by simpa [MKey.enc] using h3.1, fun i e q he hq => ?_⟩
       have := h4 i e (C.val q.1, q.2) he (by rw [enc_get, hq]; rfl)
       exact this
     | mpDead _ _ hb' => rw [hβ] at hb'; cases hb'
   · rename_i ks vs
     obtain ⟨rfl, rfl⟩ := hm
     cases hx with
     | pure _ _ hp =>
     cases hp with
     | mp _ _ b es clock us hb hm hl hk hp =>
       refine ⟨b, es, clock, us, rfl, hm, by simpa using hl.1, fun i e q he hq => ?_⟩
       obtain ⟨k1, k2⟩ := hk i e he
       rw [List.getElem?_map, hq] at k1
       simp only [Option.map_some, Option.some.injEq] at k1
       refine ⟨k1.symm, ?_⟩
       rw [k2]
       exact hp i q.2 (by rw [List.getElem?_map, hq]; rfl)
   · exact hm.elim
 have hkeys : es.toList.map (·.key) = (ms.map (·.1)).map C.val := enc_keys (by simpa using hl) fun i e q he hq => (hes i e q (by simpa using he) hq).1
 have hfind := C.find hok w (ms.map (·.1)) es.toList a hkeys
 have hget : ∃ q, PR w (Av Γ.X β) ((mget ms a).getD z) q ∧ (Instr.lookup t (.map (some b)) (C.val a) c).run P w = .ok (if c then .tuple #[q, .bool (mget ms a).isSome] else q) w := by
   rcases findL_cases a (ms.map (·.1)) es.toList 0 (by simp [hl]) with ⟨f1, f2⟩ | ⟨n, e, f1, f2, f3, f4⟩
   · obtain ⟨g1, _⟩ := mget_none f2 z
     refine ⟨zv, by rw [g1]; exact hzp _ _, ?_⟩
     rw [g1]
     rw [f1] at hfind
     cases c <;> simp [Instr.lookup, run_underlying ht, MapKept.run_getObj_map hb, C.chk hok, hfind, hzr]
   · obtain ⟨p, g0, g1, _⟩ := mget_some f3 f4 z
     refine ⟨e.val, by rw [g1]; exact (hes n e (a, p) (by simpa using f2) g0).2, ?_⟩
     rw [g1]
     rw [f1] at hfind
     cases c <;> simp [Instr.lookup, run_underlying ht, MapKept.run_getObj_map hb, C.chk hok, hfind]
 obtain ⟨q, hq, hr⟩ := hget
 unfold lookK at hK
 cases c with
 | false =>
   obtain ⟨p, rfl, hK⟩ := hK
   exact Out.same h hK (by simpa using hr) (.pure _ _ hq) (by simp [AV.keys])
 | true =>
   obtain ⟨p, b', rfl, rfl, hK⟩ := hK
   refine Out.same h hK (by simpa using hr) (.pure _ _ (.tup _ _ rfl fun j p hj => ?_)) (by simp [AV.keys])
   match j, hj with
   | 0, hj => cases hj; exact hq
   | 1, hj => cases hj; exact .val _
theorem mapUpdate_sound (h : Rl Γ s tm w β) {t : TypeId} {x ix y : AV} {u v z : Value} (hx : AR w (Av Γ.X β) β x u) (hi : AR w (Av Γ.X β) β ix v) (hy : AR w (Av Γ.X β) β y z) (hK : opMapUpdate P t x ix y s.blk K) :
   ∃ acts w' β', K .junk acts ∧ (Instr.mapUpdate t u v z).run P w = .ok () w' ∧ Rl Γ (s.acts acts) tm w' β' := by
 unfold opMapUpdate at hK
 split at hK
 case h_2 => exact hK.elim
 rename_i kt _ ht
 split at hK
 case h_2 => exact hK.elim
 rename_i k
 split at hK
 case h_2 => exact hK.elim
 rename_i q hq
 obtain ⟨α, _, C, a, ms, ms', hok, hix, hm, rfl, hK⟩ := hK
 have hv : v = C.val a := C.inv (hi.toPV0 hix)
 subst hv
 have hz := hy.toPV0 hq
 obtain ⟨bi, hβ, hbk⟩ := h.live hm
 obtain ⟨h1, es, clock, h2, h3, h4⟩ := hbk
 have hl : es.size = ms.length := by simpa [MKey.enc] using h3.1
 have hes : ∀ (i : Nat) (e : MapEntry) (q : α × PV), es[i]? = some e → ms[i]? = some q → e.key = C.val q.1 ∧ PR w (Av Γ.X β) q.2 e.val := fun i e q he hq => h4 i e (C.val q.1, q.2) he (by rw [enc_get, hq]; rfl)
 cases hx with
 | mpDead _ _ hb' => rw [hβ] at hb'; cases hb'
 | mp _ bi' hb' =>
 rw [hβ] at hb'; cases hb'
 have hkeys : es.toList.map (·.key) = (ms.map (·.1)).map C.val := enc_keys (by simpa using hl) fun i e q he hq => (hes i e q (by simpa using he) hq).1
 have hfind := C.find hok w (ms.map (·.1)) es.toList a hkeys
 have hwr : ∀ (es' : Array MapEntry) (cl' : Nat), Stamps es' cl' → es'.size = (mput ms a q).length → (∀ (i : Nat) (e : MapEntry) (p : α × PV), es'[i]? = some e → (mput ms a q)[i]? = some p → e.key = C.val p.1 ∧ PR w (Av Γ.X β) p.2 e.val) →
     (Instr.mapUpdate t (.map (some bi.b)) (C.val a) z).run P w = .ok () { w with heap := w.heap.setIfInBounds bi.b (.map es' cl') } →
     ∃ acts w' β', K .junk acts ∧ (Instr.mapUpdate t (.map (some bi.b)) (C.val a) z).run P w = .ok () w' ∧ Rl Γ (s.acts acts) tm w' β' := fun es' cl' e0 e1 e2 hr => by
   refine ⟨_, _, β, hK, hr, ?_⟩
   obtain ⟨s1, s2⟩ := MapKept.heap_set (o' := .map es' cl') h2
   exact h.upd (blk := .mp (C.enc (mput ms a q))) (w' := { w with heap := w.heap.setIfInBounds bi.b (.map es' cl') }) hβ h1 (by simp) (fun b hb => s2 b hb) rfl tpr rfl (by simp [Blk.keys]) fun had => ⟨h1, es', cl', s1, ⟨by simpa [MKey.enc] using e1, e0⟩, fun i e p he hp => by
     rw [enc_get, Option.map_eq_some_iff] at hp
     obtain ⟨p', hp', rfl⟩ := hp
     exact ⟨(e2 i e p' he hp').1, (e2 i e p' he hp').2.mono had⟩⟩
 rcases findL_cases a (ms.map (·.1)) es.toList 0 (by simp [hl]) with ⟨f1, f2⟩ | ⟨n, e, f1, f2, f3, f4⟩
 · obtain ⟨_, g2⟩ := mget_none f2 q
   rw [f1] at hfind
   refine hwr (es.push { key := C.val a, val := z, born := clock }) (clock + 1) (h3.2.push _ _) (by rw [g2]; simp [hl]) (fun i e p he hp => ?_) ?_
   · rw [g2] at hp
     rw [Array.getElem?_push] at he
     rw [List.getElem?_append] at hp
     split at he
     · rename_i hi'
       cases he
       rw [if_neg (by omega)] at hp
       have : i - ms.length = 0 := by omega
       rw [this] at hp
       cases hp
       exact ⟨rfl, hz⟩
     · split at hp
       · exact hes i e p he hp
       · rename_i h7 h8
         have := (Array.getElem?_eq_some_iff.1 he).1
         omega
   · simp [Instr.mapUpdate, run_underlying ht, MapKept.run_getObj_map h2, C.chk hok, hfind, MapKept.run_setObj_map _ h2]
 · obtain ⟨p0, g0, _, g2⟩ := mget_some f3 f4 q
   rw [f1] at hfind
   have f2' : es[n]? = some e := by simpa using f2
   have hke := (hes n e _ f2' g0).1
   refine hwr (es.modify n fun e => { e with key := C.val a, val := z }) clock (h3.2.mod n fun _ => rfl) (by rw [g2]; simp [hl]) (fun i e' p he hp => ?_) ?_
   · rw [g2] at hp
     rw [Array.getElem?_modify] at he
     rw [List.getElem?_set] at hp
     split at he
     · rename_i hn
       subst hn
       rw [f2'] at he
       simp only [Option.map_some, Option.some.injEq] at he
       subst he
       have hlt : n < ms.length := (List.getElem?_eq_some_iff.1 g0).1
       simp only [if_true, hlt] at hp
       cases hp
       exact ⟨rfl, hz⟩
     · rename_i hn
       rw [if_neg hn] at hp
       exact hes i e' p he hp
   · have : ((es[n]?).map (·.key)).getD (C.val a) = C.val a := by rw [f2']; simpa using hke
     simp [Instr.mapUpdate, run_underlying ht, MapKept.run_getObj_map h2, C.chk hok, hfind, f2', hke, C.stays, MapKept.run_setObj_map _ h2]
theorem more8_ok0 {md : Bool} : MoreOK0 (more8 md Γ.P Γ.fx) Γ := by
 intro F hF n s a w β o K hK h ho next Q hk
 have old : more7 md Γ.P Γ.fx s o K → o.wpIn F n Γ.P a w next Q := fun hK => more7_ok0 F hF n s a w β o K hK h ho next Q hk
 have hd : a.defers = a.defers := rfl
 have fin : ∀ (S : Sem Value), (execOp a.eval o) = (do pure (.value (← S))) → (∀ c, o.op ≠ .defer c) → Out Γ s a.tmps K (S.run Γ.P w) → o.wpIn F n Γ.P a w next Q := by
   rintro S he hnd ⟨v, acts, u, w', β', hKv, hr, hR, hv, hkv⟩
   refine wpIn_of_run hF hnd (v := u) (w' := w') ?_ (hk v acts _ w' hKv (putD_R hd hR ho hv hkv))
   rw [he, Sem.run_bind, hr, Result.andThen_ok]
   rfl
 have opt : ∀ x : Option Operand, optAR Γ w β (x.map s.geto) (x.map a.eval) := fun x => by
   cases x with
   | none => exact trivial
   | some x => exact geto_AR h x
 unfold more8 at hK
 split at hK
 · rename_i t x ix c hx
   exact fin _ (by simp only [execOp, hx]) (by rw [hx]; intro c; simp) (lookup_sound h (geto_AR h x) (geto_AR h ix) hK)
 · rename_i t m k x hx
   obtain ⟨acts, w', β', hKv, hr, hR⟩ := mapUpdate_sound h (geto_AR h m) (geto_AR h k) (geto_AR h x) hK
   refine wpIn_of_skip hF (by rw [hx]; intro c; simp) (w' := w') ?_ (hk .junk acts _ w' hKv (putD_R hd hR ho (.junk _) (by simp [AV.keys])))
   simp [execOp, hx, hr]
 · rename_i t r hx
   split at hK
   · rename_i d hdd
     obtain ⟨h1, h2, hK⟩ := guardNew_spec hK
     exact fin _ (by simp only [execOp, hx]) (by rw [hx]; intro c; simp) (makeMap_sound h h1 h2 (opt r) hK)
   · exact hK.elim
 · exact old hK
end
theorem more8_ok {Γ : Ctx} {md : Bool} : MoreOK (more8 md Γ.P Γ.fx) Γ := fun X w β => more8_ok0 (Γ := Γ.here X w β)
theorem more8_det {P : Program} {fx : List Nat} : DetM (more8 true P fx) := by
 intro s s' o ha K h
 have old : more7 true P fx s o K → ∃ v acts, K v acts ∧ more7 true P fx s' o (fun v' a' => v' = v ∧ a' = acts) := fun h => more7_det s s' o ha K h
 have hg := ha.get
 have hb := ha.blk
 unfold more8 at h ⊢
 split at h
 · rename_i t x ix c hx
   rw [hx] at hg hb
   simp only [Op.operands, List.mem_toArray, List.mem_cons, List.not_mem_nil, or_false] at hg hb
   rw [hg x (by simp), hg ix (by simp)]
   have hbx := hb x (by simp)
   unfold opLookup at h ⊢
   split at h
   case h_2 => exact h.elim
   split at h
   case h_2 => exact h.elim
   obtain ⟨α, _, C, a, ms, h1, h2, h3, h4⟩ := h
   have h3' : MapIs C (s.geto x) s'.blk ms := by
     unfold MapIs at h3 ⊢
     split at h3
     · rename_i k hk
       rw [hk] at hbx
       show s'.blk k = _
       rw [hbx k (by simp [AV.keys])]
       exact h3
     · exact h3
     · exact h3
   unfold lookK at h4
   split at h4
   · obtain ⟨p, h5, h6⟩ := h4
     exact ⟨_, _, h6, α, _, C, a, ms, h1, h2, h3', p, h5, rfl, rfl⟩
   · obtain ⟨p, b, h5, h6, h7⟩ := h4
     exact ⟨_, _, h7, α, _, C, a, ms, h1, h2, h3', p, b, h5, h6, rfl, rfl⟩
 · rename_i t m ky x hx
   rw [hx] at hg hb
   simp only [Op.operands, List.mem_toArray, List.mem_cons, List.not_mem_nil, or_false] at hg hb
   rw [hg m (by simp), hg ky (by simp), hg x (by simp)]
   have hbm := hb m (by simp)
   unfold opMapUpdate at h ⊢
   split at h
   case h_2 => exact h.elim
   split at h
   case h_2 => exact h.elim
   rename_i k hk
   split at h
   case h_2 => exact h.elim
   obtain ⟨α, _, C, a, ms, ms', h1, h2, h3, h4, h5⟩ := h
   rw [hk] at hbm
   exact ⟨_, _, h5, α, _, C, a, ms, ms', h1, h2, by rw [hbm k (by simp [AV.keys])]; exact h3, h4, rfl, rfl⟩
 · rename_i t r hx
   split at h
   · rename_i d hd
     rw [hx] at hg
     have e : r.map s'.geto = r.map s.geto := by
       cases r with
       | none => rfl
       | some y => simp only [Option.map_some]; rw [hg y (by simp [Op.operands])]
     rw [e]
     refine guardNew_det (ha.fresh d hd) (fun K h => ?_) K h
     unfold opMakeMap at h ⊢
     split at h
     · exact ⟨_, _, h, rfl, rfl⟩
     · split at h
       · exact ⟨_, _, h, rfl, rfl⟩
       · exact h.elim
     · exact h.elim
   · exact h.elim
 · exact old h
end Go.Avc
/- Structs of numbers, strings and bools as keys of maps. Conditions: none. -/
namespace Go.Avc
open Go.RowKit
end Go.Avc
