/- Boxes, new variables, stores, addresses, fields, indexes, integer operations: what they do, and that the model does so. Conditions: none. -/
import Derived.Test.YtmkkfgifeekgeaaVcD
namespace Go.Avc
open Go.RowKit

section
variable {Γ : Ctx} {s : St} {tm : Array Value} {w : World} {β : BM} {P : Program} {K : Kont}

theorem mem_singles {ps : List PV} {i : Nat} {row : List PV} (h : (singles ps)[i]? = some row) : ∃ p, ps[i]? = some p ∧ row = [p] := by
  simp only [singles, List.getElem?_map, Option.map_eq_some_iff] at h
  obtain ⟨p, hp, rfl⟩ := h
  exact ⟨p, hp, rfl⟩

theorem acts_one (s : St) (b : BAct) : s.acts [b] = s.act b := rfl
theorem acts_nil (s : St) : s.acts [] = s := rfl

theorem box_sound (h : Rl Γ s tm w β) {t : TypeId} {x : AV} {u : Value} {d : Nat} (hd : d ∉ s.used) (hfx : d ∉ Γ.fx) (hx : AR w (Av Γ.X β) β x u) (hkx : ∀ k ∈ x.keys, k ∈ s.used) (hK : opBox P t x d s.blk K) :
    Out Γ s tm K ((Instr.box t u).run P w) := by
  unfold opBox at hK
  simp only [forceC_eq] at hK
  split at hK
  · exact hK.elim
  rename_i h1
  obtain ⟨hl, hc⟩ := cellsOf_spec h hx (B := s.blk) (fun _ h => h) h1
  have hrun : (Instr.box t u).run P w = .ok (.pointer (some ⟨w.heap.size, 0, none⟩)) (w.alloc (.cells u.cells t)) := by
    simp [Instr.box, newVar, newRow]
  split at hK
  · obtain ⟨β', hn, ha⟩ := new_box h hd hfx t hl hc (by rw [cellsOf_keys]; exact hkx)
    exact ⟨_, _, _, _, β', hK, hrun, hn, ha, by simp [AV.keys, St.acts, St.act, St.new]⟩
  · split at hK
    · rename_i ps hps
      obtain ⟨hpl, hpp⟩ := toPVL_some hps
      obtain ⟨β', hn, ha⟩ := new_row h (w1 := w) rfl rfl rfl rfl hd hfx t (sz := 1) (rows := singles ps) (cs := u.cells) (0, 0) (NF.zero _) (by omega) (by simp [singles]; omega)
        (fun i row hi => by obtain ⟨p, _, rfl⟩ := mem_singles hi; rfl) (fun i row j p hi hj => by
          obtain ⟨q, hq, rfl⟩ := mem_singles hi
          cases j with
          | succ j => simp at hj
          | zero =>
            simp only [List.getElem?_cons_zero, Option.some.injEq] at hj
            subst hj
            obtain ⟨a, ha, hap⟩ := hpp i q hq
            simp only [Nat.mul_one, Nat.add_zero]
            obtain ⟨h2, h3⟩ := hc i _ ha
            exact ⟨h2.toPV0 hap, h3⟩)
      refine ⟨_, _, _, _, β', hK, hrun, hn, ?_, by simp [AV.keys, St.acts, St.act, St.new]⟩
      have := AR.loc (w := w.alloc (.cells u.cells t)) (A := Av Γ.X β') (β := β') d 0 0 _ ha
      simpa using this
    · exact hK.elim

theorem vals_get (vs : Array Value) (j : Nat) (av : AV) (h : (vs.toList.map fun v => AV.pure (.val v))[j]? = some av) : av = .pure (.val (vs.getD j undef)) := by
  simp only [List.getElem?_map, Option.map_eq_some_iff, Array.getElem?_toList] at h
  obtain ⟨v, hv, rfl⟩ := h
  rw [Array.getD_eq_getD_getElem?, hv]
  rfl

theorem alloc_sound (h : Rl Γ s tm w β) {t : TypeId} {d : Nat} (hd : d ∉ s.used) (hfx : d ∉ Γ.fx) (hK : opAlloc P t d K) :
    Out Γ s tm K ((Instr.alloc t true (.tuple #[])).run P w) := by
  unfold opAlloc at hK
  simp only [forceC_eq] at hK
  split at hK
  case h_2 => exact hK.elim
  rename_i i hi
  split at hK
  case h_2 => exact hK.elim
  rename_i z hz
  have hrun : (Instr.alloc t true (.tuple #[])).run P w = .ok (.pointer (some ⟨w.heap.size, 0, none⟩)) (w.alloc (.cells z.cells t)) := by
    simp [Instr.alloc, zeroValue, typeInfo, hi, hz, newVar, newRow]
  have hone : ∀ {l : List AV}, allOne (fun _ => none) l = true → ∀ a ∈ l, a.one (fun _ => none) = true := fun h => allOne_spec h
  split at hK
  · split at hK
    · rename_i h1
      obtain ⟨β', hn, ha⟩ := new_box h hd hfx t (cells := z.cells.toList.map fun v => .pure (.val v)) (cs := z.cells) (by simp) (fun j av hj => by
        have e := vals_get _ _ _ hj
        subst e
        exact ⟨.pure _ _ (.val _), hone h1 _ (List.mem_of_getElem? hj)⟩) (fun k hk => by
        obtain ⟨a, ha, hka⟩ := AV.mem_keysL.1 hk
        obtain ⟨v, _, rfl⟩ := List.mem_map.1 ha
        simp [AV.keys] at hka)
      exact ⟨_, _, _, _, β', hK, hrun, hn, ha, by simp [AV.keys, St.acts, St.act, St.new]⟩
    · exact hK.elim
  · split at hK
    · rename_i h1
      obtain ⟨β', hn, ha⟩ := new_row h (w1 := w) rfl rfl rfl rfl hd hfx t (sz := 1) (rows := singles (z.cells.toList.map .val)) (cs := z.cells) (0, 0) (NF.zero _) (by omega) (by simp [singles])
        (fun i row hi => by obtain ⟨p, _, rfl⟩ := mem_singles hi; rfl) (fun i row j p hi hj => by
          obtain ⟨q, hq, rfl⟩ := mem_singles hi
          cases j with
          | succ j => simp at hj
          | zero =>
            simp only [List.getElem?_cons_zero, Option.some.injEq] at hj
            subst hj
            simp only [List.getElem?_map, Option.map_eq_some_iff, Array.getElem?_toList] at hq
            obtain ⟨v, hv, rfl⟩ := hq
            have e : z.cells.getD (i * 1 + 0) undef = v := by rw [Array.getD_eq_getD_getElem?]; simp [hv]
            rw [e]
            exact ⟨.val _, hone h1 (.pure (.val v)) (List.mem_map.2 ⟨v, by simpa using Array.mem_of_getElem? hv, rfl⟩)⟩)
      refine ⟨_, _, _, _, β', hK, hrun, hn, ?_, by simp [AV.keys, St.acts, St.act, St.new]⟩
      have := AR.loc (w := w.alloc (.cells z.cells t)) (A := Av Γ.X β') (β := β') d 0 0 _ ha
      simpa using this
    · exact hK.elim

theorem run_stores (P : Program) (b : Nat) (e : TypeId) (fz : Nat × Nat) : ∀ (vs : List Value) (o i : Nat) (cs : Array Value) (w : World), w.heap[b]? = some (.cells cs e fz) → NF cs fz → o + i + vs.length ≤ cs.size →
    (∀ v ∈ vs, v.oneCell' = true) → ∃ w' cs', (storeCells ⟨b, o, none⟩ vs i).run P w = .ok () w' ∧ w'.heap[b]? = some (.cells cs' e fz) ∧ cs'.size = cs.size ∧
      (∀ x, cs'.getD x undef = if o + i ≤ x ∧ x < o + i + vs.length then vs.getD (x - (o + i)) undef else cs.getD x undef) ∧ w'.heap.size = w.heap.size ∧ (∀ b', b' ≠ b → w'.heap[b']? = w.heap[b']?) ∧
      w'.os = w.os ∧ w'.tape = w.tape ∧ w'.output = w.output
  | [], o, i, cs, w, hb, _, _, _ => ⟨w, cs, rfl, hb, rfl, fun x => by rw [if_neg (by simp only [List.length_nil]; omega)], rfl, fun _ _ => rfl, rfl, rfl, rfl⟩
  | v :: vs, o, i, cs, w, hb, hnf, hl, h1 => by
    simp only [List.length_cons] at hl
    have hc : w.cell? ⟨b, o + i, none⟩ = some (cs.getD (o + i) undef) := getD_cell hb (by omega)
    have hf : w.frozen? ⟨b, o + i, none⟩ = false := by
      have := hnf (o + i) (by omega)
      simp only [World.frozen?, hb]
      simpa using this
    have hb' : (w.setCell ⟨b, o + i, none⟩ v).heap[b]? = some (.cells (cs.setIfInBounds (o + i) v) e fz) := by
      simp [World.setCell, Array.getElem?_modify, hb]
    obtain ⟨w', cs', h2, h3, h4, h5, h6, h7, h8, h9, h10⟩ := run_stores P b e fz vs o (i + 1) (cs.setIfInBounds (o + i) v) (w.setCell ⟨b, o + i, none⟩ v) hb' (fun j hj => hnf j (by simpa using hj)) (by simp; omega) (fun v hv => h1 v (List.mem_cons_of_mem _ hv))
    refine ⟨w', cs', ?_, h3, by rw [h4]; simp, fun x => ?_, by rw [h6]; simp, fun b' hb'' => (h7 b' hb'').trans (Below.heap_setCell _ _ _ _ hb''), h8, h9, h10⟩
    · simp only [storeCells, Sem.run_bind, run_store P w _ v _ (h1 v List.mem_cons_self), Addr.add_lit, hc, hf, Bool.false_eq_true, if_false, Result.andThen_ok]
      exact h2
    · rw [h5 x, getD_set _ _ _ _ (by omega)]
      by_cases e1 : o + i = x
      · subst e1
        rw [if_neg (by omega), if_pos rfl, if_pos (by simp only [List.length_cons]; omega)]
        simp
      · by_cases e2 : o + (i + 1) ≤ x ∧ x < o + (i + 1) + vs.length
        · rw [if_pos e2, if_pos (by simp only [List.length_cons]; omega)]
          have : x - (o + i) = (x - (o + (i + 1))) + 1 := by omega
          rw [this]
          simp
        · rw [if_neg e2, if_neg e1, if_neg (by simp only [List.length_cons]; omega)]

theorem overlay_spec {α : Type} : ∀ {l vs r : List α}, overlay l vs = some r → r.length = l.length ∧ vs.length ≤ l.length ∧ ∀ x, r[x]? = if x < vs.length then vs[x]? else l[x]?
  | l, [], r, h => by simp [overlay] at h; subst h; simp
  | [], _ :: _, r, h => by simp [overlay] at h
  | a :: l, v :: vs, r, h => by
    simp only [overlay, Option.map_eq_some_iff] at h
    obtain ⟨q, hq, rfl⟩ := h
    obtain ⟨h1, h2, h3⟩ := overlay_spec hq
    refine ⟨by simp [h1], by simp; omega, fun x => ?_⟩
    cases x with
    | zero => simp
    | succ x => simpa using h3 x
theorem splice_spec {α : Type} : ∀ {j : Nat} {l vs r : List α}, splice j l vs = some r → r.length = l.length ∧ j + vs.length ≤ l.length ∧ ∀ x, r[x]? = if j ≤ x ∧ x < j + vs.length then vs[x - j]? else l[x]?
  | 0, l, vs, r, h => by
    obtain ⟨h1, h2, h3⟩ := overlay_spec h
    exact ⟨h1, by omega, fun x => by rw [h3 x]; simp⟩
  | _ + 1, [], _, r, h => by simp [splice] at h
  | j + 1, a :: l, vs, r, h => by
    simp only [splice, Option.map_eq_some_iff] at h
    obtain ⟨q, hq, rfl⟩ := h
    obtain ⟨h1, h2, h3⟩ := splice_spec hq
    refine ⟨by simp [h1], by simp; omega, fun x => ?_⟩
    cases x with
    | zero => simp
    | succ x =>
      simp only [List.getElem?_cons_succ, h3 x]
      by_cases e : j ≤ x ∧ x < j + vs.length
      · rw [if_pos e, if_pos (by omega)]
        congr 1
        omega
      · rw [if_neg e, if_neg (by omega)]

theorem acts_append (s : St) (l m : List BAct) : s.acts (l ++ m) = (s.acts l).acts m := by simp [St.acts, List.foldl_append]

theorem freeze_used (s : St) (k : Nat) : (s.freeze k).used = s.used := by
  by_cases h : FzOK s.blk k
  · obtain ⟨c, h1, h2⟩ := h
    rw [freeze_ok h1 h2]; rfl
  · rw [freeze_other h]
theorem frzW_blk (s : St) (k : Nat) (c : Blk) (j : Nat) : (s.frzW k c).blk j = if k = j then none else (s.blk j).map (Blk.fz k c) := by
  simp only [St.frzW, St.blk, lk_cons]
  by_cases e : k = j
  · simp [e]
  · simp only [e, if_false]
    rw [lk_map (Option.map (Blk.fz k c))]
    cases lk s.blks j with
    | none => rfl
    | some x => cases x <;> rfl
theorem frzW_get (s : St) (k : Nat) (c : Blk) (t : Nat) : (s.frzW k c).get t = (s.get t).fz k c := by
  simp only [St.frzW, St.get, lk_map (AV.fz k c)]
  cases lk s.env t <;> rfl
theorem freezes_used (s : St) : ∀ l : List Nat, (s.acts (frzs l)).used = s.used
  | [] => rfl
  | k :: l => by
    show ((s.freeze k).acts (frzs l)).used = s.used
    rw [freezes_used (s.freeze k) l, freeze_used]

/-- Freezing other blocks leaves a row as it is. -/
theorem freeze_blk_row (s : St) (k : Nat) {j sz : Nat} {rows : List (List PV)} (hs : s.blk j = some (.row sz rows)) (hne : k ≠ j) : (s.freeze k).blk j = some (.row sz rows) := by
  by_cases h : FzOK s.blk k
  · obtain ⟨c, h1, h2⟩ := h
    rw [freeze_ok h1 h2, frzW_blk, if_neg hne, hs]; rfl
  · rw [freeze_other h]; exact hs
theorem purL_fz (k : Nat) (c : Blk) : ∀ {l : List AV} {ps : List PV}, purL l = some ps → purL (AV.fzL k c l) = some ps
  | l, ps, h => by
    rw [purL_eq h, AV.fzL_eq]
    induction ps generalizing l with
    | nil => rfl
    | cons p ps ih =>
      simp only [List.map_cons, AV.fz, purL]
      rw [ih (l := ps.map .pure)]
      induction ps with
      | nil => rfl
      | cons q qs ih2 => 
        have : purL (List.map AV.pure (q :: qs)) = some (q :: qs) := by
          clear ih ih2 h
          induction (q :: qs) with
          | nil => rfl
          | cons a l ih => simp only [List.map_cons, purL, ih]
        exact this
theorem freeze_ok_other (s : St) (k : Nat) {j : Nat} (h : FzOK s.blk j) (hne : k ≠ j) : FzOK (s.freeze k).blk j := by
  by_cases hk : FzOK s.blk k
  · obtain ⟨c, h1, h2⟩ := hk
    obtain ⟨d, h3, h4⟩ := h
    refine ⟨Blk.fz k c d, ?_, ?_⟩
    · rw [freeze_ok h1 h2, frzW_blk, if_neg hne, h3]; rfl
    · cases d with
      | row => trivial
      | box cs => obtain ⟨ps, hps⟩ := h4; exact ⟨ps, purL_fz k c hps⟩
  · rw [freeze_other hk]; exact h
theorem freezes_blk_row (s : St) {j sz : Nat} {rows : List (List PV)} : ∀ {l : List Nat}, s.blk j = some (.row sz rows) → j ∉ l → (s.acts (frzs l)).blk j = some (.row sz rows)
  | [], hs, _ => hs
  | k :: l, hs, hj => by
    show ((s.freeze k).acts (frzs l)).blk j = _
    exact freezes_blk_row (s.freeze k) (freeze_blk_row s k hs (fun e => hj (e ▸ List.mem_cons_self))) (fun hm => hj (List.mem_cons_of_mem _ hm))

/-- Several blocks frozen. -/
theorem freezes (h : Rl Γ s tm w β) : ∀ {l : List Nat}, (∀ k ∈ l, k ∉ Γ.fx) →
    ∃ β', Rl Γ (s.acts (frzs l)) tm w β' ∧ (∀ j, j ∉ l → β' j = β j) ∧ (∀ j bj, β' j = some bj → β j = some bj) ∧ (∀ k ∈ l, FzOK s.blk k → β' k = none) := by
  intro l
  induction l generalizing s β with
  | nil => exact fun _ => ⟨β, h, fun _ _ => rfl, fun _ _ h => h, fun k hk => by cases hk⟩
  | cons k l ih =>
    intro hl
    obtain ⟨β1, h1, h2, h3, h4⟩ := h.freeze (hl k List.mem_cons_self)
    obtain ⟨β', g1, g2, g3, g4⟩ := ih h1 fun k hk => hl k (List.mem_cons_of_mem _ hk)
    refine ⟨β', g1, fun j hj => ?_, fun j bj hj => h3 j bj (g3 j bj hj), fun j hj hs => ?_⟩
    · simp only [List.mem_cons, not_or] at hj
      rw [g2 j hj.2, h2 j hj.1]
    · by_cases e : j = k
      · subst e
        have hn := h4 hs
        cases hb : β' j with
        | none => rfl
        | some bj => rw [g3 j bj hb] at hn; cases hn
      · rcases List.mem_cons.1 hj with rfl | hj
        · exact absurd rfl e
        · exact g4 j hj (freeze_ok_other s k hs (Ne.symm e))

mutual
theorem toPV_keys {B : Nat → Option Blk} : ∀ (v : AV) {q : PV}, toPV B v = some q → ∀ k ∈ v.keys, FzOK B k
  | .junk, _, h, k, hk => by simp [AV.keys] at hk
  | .gh _ _, _, h, k, hk => by simp [AV.keys] at hk
  | .pure p, _, h, k, hk => by simp [AV.keys] at hk
  | .loc k' i j, _, h, k, hk => by
    simp only [AV.keys, List.mem_singleton] at hk
    subst hk
    cases i with
    | succ i => simp only [toPV] at h; cases h
    | zero =>
    simp only [toPV] at h
    split at h
    · rename_i cs hs
      split at h
      · rename_i ps hps
        exact FzOK.box hs hps
      · cases h
    · cases h
  | .lsl k' i n, _, h, k, hk => by
    simp only [AV.keys, List.mem_singleton] at hk
    subst hk
    simp only [toPV] at h
    split at h
    · rename_i sz rows hs
      exact FzOK.row hs
    · cases h
  | .agg cs, _, h, k, hk => by
    simp only [toPV, Option.map_eq_some_iff] at h
    obtain ⟨ps, hps, _⟩ := h
    exact toPVL_keys cs hps k hk
  | .fn f cs, _, h, k, hk => by
    simp only [toPV, Option.map_eq_some_iff] at h
    obtain ⟨ps, hps, _⟩ := h
    exact toPVL_keys cs hps k hk
  | .tup cs, _, h, k, hk => by
    simp only [toPV, Option.map_eq_some_iff] at h
    obtain ⟨ps, hps, _⟩ := h
    exact toPVL_keys cs hps k hk
theorem toPVL_keys {B : Nat → Option Blk} : ∀ (l : List AV) {ps : List PV}, toPVL B l = some ps → ∀ k ∈ AV.keysL l, FzOK B k
  | [], _, h, k, hk => by simp [AV.keysL] at hk
  | a :: l, _, h, k, hk => by
    simp only [toPVL, Option.bind_eq_some_iff, Option.map_eq_some_iff] at h
    obtain ⟨p, hp, qs, hq, rfl⟩ := h
    simp only [AV.keysL, List.mem_append] at hk
    rcases hk with hk | hk
    · exact toPV_keys a hp k hk
    · exact toPVL_keys l hq k hk
end

/-- A value whose local blocks are frozen reads as what they held. -/
theorem kills_all (h : Rl Γ s tm w β) : ∀ {l : List Nat}, (∀ k ∈ l, k ∉ Γ.fx) →
    ∃ β', Rl Γ (s.acts (kills l)) tm w β' ∧ (∀ j, j ∉ l → β' j = β j) ∧ (∀ j bj, β' j = some bj → β j = some bj) ∧ (∀ k ∈ l, FzOK s.blk k → β' k = none) := by
  intro l
  suffices hh : (∀ k ∈ l, k ∉ Γ.fx) → ∃ β', Rl Γ (s.acts (kills l)) tm w β' ∧ (∀ j, j ∉ l → β' j = β j) ∧ (∀ j bj, β' j = some bj → β j = some bj) ∧ (∀ k ∈ l, β' k = none) by
    intro hl
    obtain ⟨β', h1, h2, h3, h4⟩ := hh hl
    exact ⟨β', h1, h2, h3, fun k hk _ => h4 k hk⟩
  induction l generalizing s β with
  | nil => exact fun _ => ⟨β, h, fun _ _ => rfl, fun _ _ h => h, fun k hk => by cases hk⟩
  | cons k l ih =>
    intro hl
    obtain ⟨β', g1, g2, g3, g4⟩ := ih (h.killK (hl k List.mem_cons_self)) fun k hk => hl k (List.mem_cons_of_mem _ hk)
    have h3 : ∀ j bj, β' j = some bj → j ≠ k ∧ β j = some bj := fun j bj hj => by
      have := g3 j bj hj
      by_cases e : j = k
      · simp [e] at this
      · exact ⟨e, by simpa [e] using this⟩
    refine ⟨β', g1, fun j hj => ?_, fun j bj hj => (h3 j bj hj).2, fun j hj => ?_⟩
    · simp only [List.mem_cons, not_or] at hj
      rw [g2 j hj.2]
      simp [hj.1]
    · by_cases e : j = k
      · subst e
        cases hb : β' j with
        | none => rfl
        | some bj => exact absurd rfl (h3 j bj hb).1
      · rcases List.mem_cons.1 hj with rfl | hj
        · exact absurd rfl e
        · exact g4 j hj

theorem fks (h : Rl Γ s tm w β) (md : Bool) {l : List Nat} (hl : ∀ k ∈ l, k ∉ Γ.fx) :
    ∃ β', Rl Γ (s.acts (fk md l)) tm w β' ∧ (∀ j, j ∉ l → β' j = β j) ∧ (∀ j bj, β' j = some bj → β j = some bj) ∧ (∀ k ∈ l, FzOK s.blk k → β' k = none) := by
  cases md
  · exact freezes h hl
  · exact kills_all h hl
theorem fks_used (s : St) (md : Bool) (l : List Nat) : (s.acts (fk md l)).used = s.used := by
  cases md
  · exact freezes_used s l
  · show (s.acts (kills l)).used = s.used
    induction l generalizing s with
    | nil => rfl
    | cons k l ih => exact ih (s.kill k)
theorem fks_blk_row (s : St) (md : Bool) {j sz : Nat} {rows : List (List PV)} {l : List Nat} (hs : s.blk j = some (.row sz rows)) (hj : j ∉ l) : (s.acts (fk md l)).blk j = some (.row sz rows) := by
  cases md
  · exact freezes_blk_row s hs hj
  · show (s.acts (kills l)).blk j = _
    induction l generalizing s with
    | nil => exact hs
    | cons k l ih =>
      simp only [List.mem_cons, not_or] at hj
      refine ih (s.kill k) ?_ hj.2
      rw [St.blk_kill, if_neg (Ne.symm hj.1)]
      exact hs

theorem freezes_PR (h : Rl Γ s tm w β) {l : List Nat} {x : AV} {u : Value} {q : PV} (hx : AR w (Av Γ.X β) β x u) (hl : ∀ k ∈ x.keys, k ∈ l) (hq : toPV s.blk x = some q)
    {β' : BM} (g3 : ∀ j bj, β' j = some bj → β j = some bj) (g4 : ∀ k ∈ l, FzOK s.blk k → β' k = none) : PR w (Av Γ.X β') q u := by
  have had : Ad w (Av Γ.X β) w (Av Γ.X β') := ⟨Nat.le_refl _, fun b _ hA => ⟨rfl, fun hA' => hA (by
    rcases hA' with hx | ⟨j, bj, hj, hv, hb⟩
    · exact .inl hx
    · exact .inr ⟨j, bj, g3 j bj hj, hv, hb⟩)⟩⟩
  refine AR.toPV had h.blks hx (fun k hk bi hb hv => ?_) hq
  have hn := g4 k (hl k hk) (toPV_keys x hq k hk)
  rintro (hX | ⟨j, bj, hj, hv', hbb⟩)
  · exact h.notX k bi hb hv hX
  · have := h.inj j k bj bi (g3 j bj hj) hb hv' hv hbb
    subst this
    rw [hn] at hj; cases hj

theorem freezes_PRL (h : Rl Γ s tm w β) {l : List Nat} {xs : List AV} {us : Nat → Value} {qs : List PV} (hx : ∀ (j : Nat) (x : AV), xs[j]? = some x → AR w (Av Γ.X β) β x (us j)) (hl : ∀ k ∈ AV.keysL xs, k ∈ l) (hq : toPVL s.blk xs = some qs)
    {β' : BM} (g3 : ∀ j bj, β' j = some bj → β j = some bj) (g4 : ∀ k ∈ l, FzOK s.blk k → β' k = none) :
    ∀ (j : Nat) (q : PV), qs[j]? = some q → PR w (Av Γ.X β') q (us j) := by
  intro j q hj
  obtain ⟨a, ha, hap⟩ := (toPVL_some hq).2 j q hj
  exact freezes_PR h (hx j a ha) (fun k hk => hl k (AV.mem_keysL.2 ⟨a, List.mem_of_getElem? ha, hk⟩)) hap g3 g4
end
end Go.Avc
