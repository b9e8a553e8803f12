/- Loads, boxes, stores: what the operations of the first part do is what the model does. Conditions: none. -/
import Derived.Test.YtmkkfgifeekgeaaVcC
namespace Go.Avc
open Go.RowKit

theorem aggOf_some {P : Program} {t : TypeId} {b : Bool} (h : aggOf P t = some b) (w : World) : (isAgg t).run P w = .ok b w := by
  unfold aggOf at h
  cases hd : P.underlying t with
  | none => rw [hd] at h; cases h
  | some d =>
    rw [hd] at h
    simp only [isAgg, Sem.run_bind, run_underlying hd, Result.andThen_ok]
    cases d <;> simp_all <;> subst h <;> rfl
theorem run_sizeOf {P : Program} {t : TypeId} {n : Nat} (h : szOf P t = some n) (w : World) : (sizeOf t).run P w = .ok n w := by
  simp only [szOf, Option.map_eq_some_iff] at h
  obtain ⟨i, hi, rfl⟩ := h
  simp [sizeOf, typeInfo, hi]

theorem run_loadVar_agg {P : Program} {t : TypeId} {n : Nat} {w : World} {a : Addr} {f : Nat → Value} (ha : aggOf P t = some true) (hn : szOf P t = some n) (h : ∀ j, j < n → w.cell? (a.add j) = some (f j)) :
    (loadVar t a).run P w = .ok (.agg ((List.range n).map f).toArray) w := by
  simp only [loadVar, Sem.run_bind, aggOf_some ha, Result.andThen_ok, if_true, run_sizeOf hn, run_loadCells (P := P) w a n f h, Sem.run_pure]
theorem run_loadVar_one {P : Program} {t : TypeId} {w : World} {a : Addr} {v : Value} (ha : aggOf P t = some false) (h : w.cell? a = some v) :
    (loadVar t a).run P w = .ok v w := by
  simp [loadVar, aggOf_some ha, h]

section
variable {Γ : Ctx} {s : St} {tm : Array Value} {w : World} {β : BM} {P : Program} {K : Kont}

theorem getD_range (n : Nat) (f : Nat → Value) (j : Nat) (hj : j < n) : ((List.range n).map f).toArray.getD j undef = f j := by
  simp [Array.getD, hj]

theorem getCells_sound {t : TypeId} {cells : List AV} {j : Nat} (hg : getCells P t cells j K) {ad : Addr} {f : Nat → Value}
    (hc : ∀ i av, cells[j + i]? = some av → w.cell? (ad.add i) = some (f i) ∧ AR w (Av Γ.X β) β av (f i) ∧ ∀ k ∈ av.keys, k ∈ s.used) : OutS Γ s w β K ((loadVar t ad).run P w) := by
  unfold getCells at hg
  simp only [forceC_eq] at hg
  split at hg
  · rename_i ha
    split at hg
    · rename_i n hn
      split at hg
      · rename_i cs hcs
        obtain ⟨h1, rfl⟩ := takeN_eq _ _ _ hcs
        rw [dropN_eq] at h1 hg
        rw [List.length_drop] at h1
        have hcell : ∀ i, i < n → ∃ av, cells[j + i]? = some av := fun i hi => ⟨_, List.getElem?_eq_getElem (by omega)⟩
        refine OutS.same hg (run_loadVar_agg ha hn (f := f) fun i hi => ?_) ?_ ?_
        · obtain ⟨av, hav⟩ := hcell i hi
          exact (hc i av hav).1
        · refine .agg _ _ (by simp; omega) fun i p hp => ?_
          have hi : i < n := by
            have := (List.getElem?_eq_some_iff.1 hp).1
            simp at this; omega
          rw [getD_range _ _ _ hi]
          rw [List.getElem?_take, if_pos hi, List.getElem?_drop] at hp
          exact (hc i p hp).2.1
        · intro k hk
          simp only [AV.keys] at hk
          obtain ⟨a, ha', hka⟩ := AV.mem_keysL.1 hk
          obtain ⟨i, hi, hia⟩ := List.getElem_of_mem ha'
          have hp : ((cells.drop j).take n)[i]? = some a := by rw [List.getElem?_eq_getElem hi, hia]
          have hin : i < n := by simp at hi; omega
          rw [List.getElem?_take, if_pos hin, List.getElem?_drop] at hp
          exact (hc i a hp).2.2 k hka
      · exact hg.elim
    · exact hg.elim
  · rename_i ha
    split at hg
    · rename_i v hv
      rw [nth_eq] at hv
      obtain ⟨h1, h2, h3⟩ := hc 0 v (by simpa using hv)
      rw [Addr.add_zero'] at h1
      exact OutS.same hg (run_loadVar_one ha h1) h2 h3
    · exact hg.elim
  · exact hg.elim

theorem keys_pures (l : List PV) : AV.keysL (pures l) = [] := by
  induction l with
  | nil => rfl
  | cons p l ih => simp only [pures, List.map_cons, AV.keysL, AV.keys, List.nil_append]; exact ih
theorem pures_get {l : List PV} {j : Nat} {av : AV} (h : (pures l)[j]? = some av) : ∃ p, l[j]? = some p ∧ av = .pure p := by
  simp only [pures, List.getElem?_map, Option.map_eq_some_iff] at h
  obtain ⟨p, hp, rfl⟩ := h
  exact ⟨p, hp, rfl⟩

theorem flatten_get {sz : Nat} : ∀ {rows : List (List PV)} {x : Nat} {p : PV}, (∀ (i : Nat) (row : List PV), rows[i]? = some row → row.length = sz) → rows.flatten[x]? = some p →
    ∃ i row j, rows[i]? = some row ∧ row[j]? = some p ∧ x = i * sz + j
  | [], x, p, _, h => by simp at h
  | r :: rows, x, p, hl, h => by
    have h0 := hl 0 r (by simp)
    rw [List.flatten_cons, List.getElem?_append] at h
    split at h
    · exact ⟨0, r, x, by simp, h, by simp⟩
    · rename_i hx
      obtain ⟨i, row, j, h1, h2, h3⟩ := flatten_get (sz := sz) (fun i row hi => hl (i + 1) row (by simpa using hi)) h
      refine ⟨i + 1, row, j, by simpa using h1, h2, ?_⟩
      rw [Nat.add_mul]; omega
theorem flatten_len {sz : Nat} : ∀ {rows : List (List PV)}, (∀ (i : Nat) (row : List PV), rows[i]? = some row → row.length = sz) → rows.flatten.length = rows.length * sz
  | [], _ => by simp
  | r :: rows, hl => by
    have h0 := hl 0 r (by simp)
    have := flatten_len (sz := sz) (rows := rows) (fun i row hi => hl (i + 1) row (by simpa using hi))
    rw [List.flatten_cons, List.length_append, this, h0, List.length_cons, Nat.add_mul]; omega

theorem row_cell {bi : BI} {sz : Nat} {rows : List (List PV)} {A : Nat → Prop} (hb : BOK w A β bi (.row sz rows)) {i : Nat} {row : List PV} {j : Nat} {p : PV} (hi : rows[i]? = some row) (hj : row[j]? = some p) :
    ∃ u, w.cell? ⟨bi.b, i * bi.sz + j, none⟩ = some u ∧ PR w A p u ∧ u.oneCell' = true := by
  obtain ⟨h1, h2, h2', h3, h4⟩ := hb
  rcases h4 with ⟨_, rfl⟩ | ⟨_, cs, e, fz, h5, h6, h7, h8, h9⟩
  · simp at hi
  · obtain ⟨h10, h11⟩ := h9 i row j p hi hj
    refine ⟨_, getD_cell h5 ?_, by rw [h1]; exact h10, by rw [h1]; exact h11⟩
    have hr := h3 i row hi
    have hj' : j < sz := by have := (List.getElem?_eq_some_iff.1 hj).1; omega
    have hil : i < rows.length := (List.getElem?_eq_some_iff.1 hi).1
    have : i * sz + sz ≤ rows.length * sz := by rw [← Nat.succ_mul]; exact Nat.mul_le_mul_right _ hil
    rw [h1]; omega

theorem load_sound (h : Rl Γ s tm w β) {t : TypeId} {x : AV} {u : Value} (hx : AR w (Av Γ.X β) β x u) (hK : opLoad P t x s.blk K) : OutS Γ s w β K ((Instr.loadAt t u).run P w) := by
  unfold opLoad at hK
  split at hK
  · rename_i k i j
    split at hK
    · rename_i cells hs
      obtain ⟨bi, hβ, h1, cs, e, fz, h2, h3, h4, h5, h6⟩ := h.live hs
      split at hK
      · obtain rfl := hx.loc_inv hβ
        simp only [Instr.loadAt, Instr.sureAddr, Sem.run_bind, Sem.run_pure, Result.andThen_ok, Nat.zero_mul, Nat.zero_add]
        refine getCells_sound hK (f := fun i => cs.getD (j + i) undef) fun i av hav => ?_
        rw [Addr.add_lit]
        refine ⟨getD_cell h2 ?_, (h6 _ av hav).1, fun k' hk' => (h.used2 k _ hs).2 k' ?_⟩
        · have := (List.getElem?_eq_some_iff.1 hav).1; omega
        · simp only [Blk.keys]; exact AV.mem_keysL.2 ⟨av, List.mem_of_getElem? hav, hk'⟩
      · exact hK.elim
    · rename_i sz rows hs
      obtain ⟨bi, hβ, hb⟩ := h.live hs
      obtain rfl := hx.loc_inv hβ
      simp only [Instr.loadAt, Instr.sureAddr, Sem.run_bind, Sem.run_pure, Result.andThen_ok]
      have hcell := fun {i row j p} => row_cell (w := w) (β := β) hb (i := i) (row := row) (j := j) (p := p)
      obtain ⟨h1, h2, h2', h3, h4⟩ := hb
      split at hK
      · rename_i ha
        rcases hK with ⟨row, hi, hn, rfl, hK⟩ | ⟨rfl, rfl, hn, hK⟩
        · have hr := h3 i row hi
          have : ∀ y, ∃ u, ∀ p, row[y]? = some p → w.cell? ⟨bi.b, i * bi.sz + y, none⟩ = some u ∧ PR w (Av Γ.X β) p u := fun y => by
            cases hy : row[y]? with
            | none => exact ⟨undef, fun p hp => by cases hp⟩
            | some p =>
              obtain ⟨u, hu1, hu2, _⟩ := hcell hi hy
              exact ⟨u, fun q hq => by cases hq; exact ⟨hu1, hu2⟩⟩
          obtain ⟨g, hg⟩ := Classical.axiomOfChoice this
          refine OutS.same hK (run_loadVar_agg ha hn (f := g) fun y hy => ?_) ?_ ?_
          · rw [Addr.add_lit, Nat.add_zero]
            exact (hg y _ (List.getElem?_eq_getElem (by omega))).1
          · refine .agg _ _ (by simp [pures, hr]) fun y p hp => ?_
            obtain ⟨q, hq, rfl⟩ := pures_get hp
            have hy : y < sz := by have := (List.getElem?_eq_some_iff.1 hq).1; omega
            rw [getD_range _ _ _ hy]
            exact .pure _ _ (hg y q hq).2
          · simp only [AV.keys, keys_pures, List.not_mem_nil, false_implies, implies_true]
        · have : ∀ y, ∃ u, ∀ p, rows.flatten[y]? = some p → w.cell? ⟨bi.b, y, none⟩ = some u ∧ PR w (Av Γ.X β) p u := fun y => by
            cases hy : rows.flatten[y]? with
            | none => exact ⟨undef, fun p hp => by cases hp⟩
            | some p =>
              obtain ⟨x1, row, y1, hx1, hy1, rfl⟩ := flatten_get h3 hy
              obtain ⟨u, hu1, hu2, _⟩ := hcell hx1 hy1
              rw [h1] at hu1
              exact ⟨u, fun q hq => by cases hq; exact ⟨hu1, hu2⟩⟩
          obtain ⟨g, hg⟩ := Classical.axiomOfChoice this
          have hfl := flatten_len h3
          refine OutS.same hK (run_loadVar_agg ha hn (f := g) fun y hy => ?_) ?_ ?_
          · rw [Addr.add_lit, show 0 * bi.sz + 0 + y = y from by omega]
            exact (hg y _ (List.getElem?_eq_getElem (by omega))).1
          · refine .agg _ _ (by simp only [pures, List.length_map, List.size_toArray, List.length_range]; omega) fun y p hp => ?_
            obtain ⟨q, hq, rfl⟩ := pures_get hp
            have hy : y < rows.length * sz := by have := (List.getElem?_eq_some_iff.1 hq).1; omega
            rw [getD_range _ _ _ hy]
            exact .pure _ _ (hg y q hq).2
          · simp only [AV.keys, keys_pures, List.not_mem_nil, false_implies, implies_true]
      · rename_i ha
        obtain ⟨row, p, hi, hj, hK⟩ := hK
        obtain ⟨u, hu1, hu2, _⟩ := hcell hi hj
        exact OutS.same hK (run_loadVar_one ha hu1) (.pure _ _ hu2) (by simp [AV.keys])
      · exact hK.elim
    · exact hK.elim
  · rename_i cs
    cases hx with
    | pure _ _ hp =>
      cases hp with
      | ptr _ a us hb hr hp =>
        simp only [Instr.loadAt, Instr.sureAddr, Sem.run_bind, Sem.run_pure, Result.andThen_ok]
        refine getCells_sound hK (f := us) fun i av hav => ?_
        rw [Nat.zero_add] at hav
        obtain ⟨p, hp', rfl⟩ := pures_get hav
        exact ⟨(hr i p hp').1, .pure _ _ (hp i p hp'), by simp [AV.keys]⟩
  · exact hK.elim

theorem PV.one_spec {w : World} {A : Nat → Prop} {p : PV} {u : Value} (h : PR w A p u) (h1 : p.one = true) : u.oneCell' = true := by
  cases h <;> first | exact h1 | rfl | (simp [PV.one] at h1)

theorem AV.one_spec (h : Rl Γ s tm w β) {v : AV} {u : Value} (hv : AR w (Av Γ.X β) β v u) {B : Nat → Option Blk} (hB : ∀ k, (B k).isSome = true → (s.blk k).isSome = true) (h1 : v.one B = true) : u.oneCell' = true := by
  have hd : ∀ k, (B k).isSome = true → β k ≠ none := fun k hk hn => by
    have h2 := hB k hk
    have hb := h.blks k
    rw [hn] at hb
    cases hs : s.blk k with
    | none => rw [hs] at h2; cases h2
    | some b => rw [hs] at hb; exact hb.elim
  cases hv with
  | junk => simp [AV.one] at h1
  | gh => simp [AV.one] at h1
  | pure p _ hp => exact PV.one_spec hp h1
  | loc => rfl
  | locDead k i j _ hn => exact absurd hn (hd k h1)
  | lsl => rfl
  | lslV => rfl
  | lslDead k i n _ hn => exact absurd hn (hd k h1)
  | agg => simp [AV.one] at h1
  | fn => rfl
  | tup => simp [AV.one] at h1

theorem allOne_spec {B : Nat → Option Blk} : ∀ {l : List AV}, allOne B l = true → ∀ a ∈ l, a.one B = true
  | [], _, a, ha => by cases ha
  | b :: l, h, a, ha => by
    simp only [allOne] at h
    cases hb : b.one B with
    | false => rw [hb] at h; simp at h
    | true =>
      rw [hb] at h
      rcases List.mem_cons.1 ha with rfl | ha
      · exact hb
      · exact allOne_spec (by simpa using h) a ha

theorem cells_one {u : Value} (h : u.oneCell' = true) : u.cells = #[u] := by cases u <;> first | rfl | (simp [Value.oneCell'] at h)

/-- The cells of a value, abstract and concrete. -/
theorem cellsOf_spec (h : Rl Γ s tm w β) {v : AV} {u : Value} (hv : AR w (Av Γ.X β) β v u) {B : Nat → Option Blk} (hB : ∀ k, (B k).isSome = true → (s.blk k).isSome = true) (h1 : allOne B (cellsOf v) = true) :
    u.cells.size = (cellsOf v).length ∧ ∀ (j : Nat) (av : AV), (cellsOf v)[j]? = some av → AR w (Av Γ.X β) β av (u.cells.getD j undef) ∧ (u.cells.getD j undef).oneCell' = true := by
  have hall := allOne_spec h1
  have single : cellsOf v = [v] → u.cells.size = (cellsOf v).length ∧ ∀ (j : Nat) (av : AV), (cellsOf v)[j]? = some av → AR w (Av Γ.X β) β av (u.cells.getD j undef) ∧ (u.cells.getD j undef).oneCell' = true := fun e => by
    have ho := AV.one_spec h hv hB (hall v (by rw [e]; simp))
    rw [e, cells_one ho]
    refine ⟨rfl, fun j av hj => ?_⟩
    cases j with
    | zero => simp at hj; subst hj; exact ⟨hv, ho⟩
    | succ j => simp at hj
  cases hv with
  | agg cs vs hl hp =>
    refine ⟨hl, fun j av hj => ⟨hp j av hj, ?_⟩⟩
    exact AV.one_spec h (hp j av hj) hB (hall av (List.mem_of_getElem? hj))
  | pure p _ hp =>
    cases hp with
    | agg cs vs hl hp =>
      refine ⟨by simp only [cellsOf, pures, List.length_map]; exact hl, fun j av hj => ?_⟩
      obtain ⟨q, hq, rfl⟩ := pures_get hj
      exact ⟨.pure _ _ (hp j q hq), AV.one_spec h (.pure _ _ (hp j q hq)) hB (hall _ (List.mem_of_getElem? hj))⟩
    | val => exact single rfl
    | slnil => exact single rfl
    | sl => exact single rfl
    | ptr => exact single rfl
    | tup => exact single rfl
    | fn => exact single rfl
  | junk => exact single rfl
  | gh => exact single rfl
  | loc => exact single rfl
  | locDead => exact single rfl
  | lsl => exact single rfl
  | lslV => exact single rfl
  | lslDead => exact single rfl
  | fn => exact single rfl
  | tup => exact single rfl

theorem cellsOf_keys (v : AV) : AV.keysL (cellsOf v) = v.keys := by
  cases v with
  | pure p => cases p <;> simp [cellsOf, keys_pures, AV.keys, AV.keysL]
  | agg cs => rfl
  | junk => rfl
  | gh => rfl
  | loc => rfl
  | lsl => rfl
  | fn f cs => simp [cellsOf, AV.keysL]
  | tup cs => simp [cellsOf, AV.keysL]

/-- A new block of cells: a box. -/
theorem new_box (h : Rl Γ s tm w β) {d : Nat} (hd : d ∉ s.used) (hfx : d ∉ Γ.fx) (t : TypeId) {cells : List AV} {cs : Array Value} (hl : cs.size = cells.length)
    (hc : ∀ (j : Nat) (av : AV), cells[j]? = some av → AR w (Av Γ.X β) β av (cs.getD j undef) ∧ (cs.getD j undef).oneCell' = true) (hk : ∀ k ∈ AV.keysL cells, k ∈ s.used) :
    ∃ β', Rl Γ (s.new d (.box cells)) tm (w.alloc (.cells cs t)) β' ∧ AR (w.alloc (.cells cs t)) (Av Γ.X β') β' (.loc d 0 0) (.pointer (some ⟨w.heap.size, 0, none⟩)) := by
  have hn := h.newK hd hfx ⟨w.heap.size, 1, cs.size, 0, false⟩ (.box cells) (w' := w.alloc (.cells cs t)) (by simp) (fun b hb => heap_alloc_old w _ hb) rfl rfl rfl (fun _ => ⟨rfl, by simp⟩) hk
    (fun β' e1 e2 had => ⟨rfl, cs, t, (0, 0), heap_alloc_new w _, NF.zero cs, hl, rfl, fun j av hj => ⟨(hc j av hj).1.mono had fun k hkv => e2 k fun e => hd (e ▸ hk k (AV.mem_keysL.2 ⟨av, List.mem_of_getElem? hj, hkv⟩)), (hc j av hj).2⟩⟩)
  refine ⟨_, hn, ?_⟩
  have := AR.loc (w := w.alloc (.cells cs t)) (A := Av Γ.X (fun j => if j = d then some ⟨w.heap.size, 1, cs.size, 0, false⟩ else β j)) (β := fun j => if j = d then some ⟨w.heap.size, 1, cs.size, 0, false⟩ else β j) d 0 0 ⟨w.heap.size, 1, cs.size, 0, false⟩ (by simp)
  simpa using this

/-- A new block of cells: a row of elements (and maybe room behind them). -/
theorem new_row (h : Rl Γ s tm w β) {w1 : World} (hw : w1.heap = w.heap) (ho : w1.os = w.os) (ht : w1.tape = w.tape) (hp : w1.output = w.output) {d : Nat} (hd : d ∉ s.used) (hfx : d ∉ Γ.fx) (t : TypeId) {sz : Nat} {rows : List (List PV)} {cs : Array Value} (fz : Nat × Nat) (hfz : NF cs fz) (hsz : 0 < sz) (hl : rows.length * sz ≤ cs.size)
    (hr : ∀ (i : Nat) (row : List PV), rows[i]? = some row → row.length = sz)
    (hc : ∀ (i : Nat) (row : List PV) (j : Nat) (p : PV), rows[i]? = some row → row[j]? = some p → PR w (Av Γ.X β) p (cs.getD (i * sz + j) undef) ∧ (cs.getD (i * sz + j) undef).oneCell' = true) :
    ∃ β', Rl Γ (s.new d (.row sz rows)) tm (w1.alloc (.cells cs t fz)) β' ∧ β' d = some ⟨w.heap.size, sz, cs.size, rows.length, false⟩ := by
  have hn := h.newK hd hfx ⟨w.heap.size, sz, cs.size, rows.length, false⟩ (.row sz rows) (w' := w1.alloc (.cells cs t fz)) (by simp [hw]) (fun b hb => by rw [heap_alloc_old w1 _ (by rw [hw]; exact hb), hw]) ho ht hp (fun _ => ⟨rfl, by simp [hw]⟩) (by simp [Blk.keys])
    (fun β' e1 e2 had => ⟨rfl, hsz, rfl, hr, .inr ⟨rfl, cs, t, fz, by have := heap_alloc_new w1 (.cells cs t fz); rw [hw] at this; exact this, hfz, rfl, hl, fun i row j p hi hj => ⟨(hc i row j p hi hj).1.mono had, (hc i row j p hi hj).2⟩⟩⟩)
  exact ⟨_, hn, by simp⟩

theorem freshIn_spec {d : Nat} : ∀ {l : List Nat}, freshIn d l = true → d ∉ l
  | [], _ => by simp
  | k :: l, h => by
    simp only [freshIn, beq_eq_decide] at h
    by_cases e : d = k
    · simp [e] at h
    · simp only [e, decide_false, cond_false] at h
      simp [e, freshIn_spec h]
end
end Go.Avc
