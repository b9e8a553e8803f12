/- Stores, addresses of fields and elements, fields and elements of values, integer operations: sound. Conditions: none. -/
import Derived.Test.YtmkkfgifeekgeaaVcE
namespace Go.Avc
open Go.RowKit

theorem disj_spec : ∀ {l m : List Nat}, disj l m = true → ∀ k ∈ l, k ∉ m
  | [], _, _, k, hk => by cases hk
  | a :: l, m, h, k, hk => by
    simp only [disj] at h
    cases ha : freshIn a m with
    | false => rw [ha] at h; simp at h
    | true =>
      rw [ha] at h
      rcases List.mem_cons.1 hk with rfl | hk
      · exact freshIn_spec ha
      · exact disj_spec (by simpa using h) k hk

section
variable {Γ : Ctx} {s : St} {tm : Array Value} {w : World} {β : BM} {P : Program} {K : Kont}

theorem getD_toList (vs : Array Value) (j : Nat) : vs.toList.getD j undef = vs.getD j undef := by
  simp [List.getD, Array.getD_eq_getD_getElem?]

theorem run_storeVar {t : TypeId} {n : Nat} (hn : szOf P t = some n) {u : Value} (hu : u.cells.size = n) (a : Addr) : (storeVar t a u).run P w = (storeCells a u.cells.toList).run P w := by
  simp [storeVar, run_sizeOf hn, hu]

theorem store_sound (h : Rl Γ s tm w β) {t : TypeId} {x v : AV} {ux uv : Value} (hx : AR w (Av Γ.X β) β x ux) (hv : AR w (Av Γ.X β) β v uv) (hkv : ∀ k ∈ v.keys, k ∈ s.used) {md : Bool} (hK : opStore md P t x v s.blk Γ.fx K) :
    ∃ acts w' β', K .junk acts ∧ (Instr.storeAt t ux uv).run P w = .ok () w' ∧ Rl Γ (s.acts acts) tm w' β' := by
  unfold opStore at hK
  simp only [forceC_eq] at hK
  split at hK
  case h_2 => exact hK.elim
  rename_i k i j
  split at hK
  · exact hK.elim
  rename_i h1
  obtain ⟨hl, hc⟩ := cellsOf_spec h hv (B := s.blk) (fun _ h => h) h1
  obtain ⟨hn, hK⟩ := hK
  have hone : ∀ u ∈ uv.cells.toList, u.oneCell' = true := fun u hu => by
    obtain ⟨y, hy, rfl⟩ := List.getElem_of_mem hu
    have hy' : y < (cellsOf v).length := by rw [← hl]; simpa using hy
    have := (hc y _ (List.getElem?_eq_getElem hy')).2
    rw [Array.getD_eq_getD_getElem?, Array.getElem?_eq_getElem (by simpa using hy)] at this
    simpa using this
  split at hK
  · rename_i cells hs
    obtain ⟨bi, hβ, g1, cs, e, fz, g2, g3, g4, g5, g6⟩ := h.live hs
    split at hK
    · split at hK
      · rename_i cells' hsp
        obtain ⟨q1, q2, q3⟩ := splice_spec hsp
        obtain rfl := hx.loc_inv hβ
        obtain ⟨w', cs', r1, r2, r3, r4, r5, r6, r7, r8, r9⟩ := run_stores P bi.b e fz uv.cells.toList j 0 cs w g2 g3 (by simp; omega) hone
        refine ⟨_, w', β, hK, ?_, ?_⟩
        · simp only [Instr.storeAt, Instr.sureAddr, Sem.run_bind, Sem.run_pure, Result.andThen_ok, run_storeVar hn hl]
          rw [show 0 * bi.sz + j = j from by omega]
          exact r1
        · refine h.upd hβ g1 r5 (fun b hb => r6 b hb) r7 r8 r9 (fun k' hk' => ?_) fun had => ⟨g1, cs', e, fz, r2, fun y hy => g3 y (by omega), by omega, by omega, fun y av hy => ?_⟩
          · simp only [Blk.keys] at hk'
            obtain ⟨a, ha, hka⟩ := AV.mem_keysL.1 hk'
            obtain ⟨y, hy, hya⟩ := List.getElem_of_mem ha
            have hy2 := q3 y
            rw [List.getElem?_eq_getElem hy, hya] at hy2
            split at hy2
            · exact hkv k' (by rw [← cellsOf_keys]; exact AV.mem_keysL.2 ⟨a, List.mem_of_getElem? hy2.symm, hka⟩)
            · refine (h.used2 k _ hs).2 k' ?_
              simp only [Blk.keys]
              exact AV.mem_keysL.2 ⟨a, List.mem_of_getElem? hy2.symm, hka⟩
          · rw [q3 y] at hy
            rw [r4 y]
            simp only [Nat.add_zero, Array.length_toList, hl]
            split at hy
            · rename_i hr
              rw [if_pos hr]
              rw [getD_toList]
              exact ⟨(hc _ av hy).1.mono had fun _ _ => rfl, (hc _ av hy).2⟩
            · rename_i hr
              rw [if_neg hr]
              exact ⟨(g6 y av hy).1.mono had fun _ _ => rfl, (g6 y av hy).2⟩
      · exact hK.elim
    · exact hK.elim
  · rename_i sz rows hs
    split at hK
    case h_2 => exact hK.elim
    rename_i ps hps
    obtain ⟨hpl, _⟩ := toPVL_some hps
    -- both forms: the row's new elements are rows'
    have main : ∀ (rows' : List (List PV)) (o : Nat), rows'.length = rows.length → (∀ (i : Nat) (row : List PV), rows'[i]? = some row → row.length = sz) → o + ps.length ≤ rows.length * sz →
        (∀ (x : Nat) (row : List PV) (y : Nat) (p : PV), rows'[x]? = some row → row[y]? = some p → (o ≤ x * sz + y ∧ x * sz + y < o + ps.length ∧ ps[x * sz + y - o]? = some p) ∨ (¬ (o ≤ x * sz + y ∧ x * sz + y < o + ps.length) ∧ ∃ row0, rows[x]? = some row0 ∧ row0[y]? = some p)) →
        freshIn k (AV.keysL (cellsOf v)) = true → disj (AV.keysL (cellsOf v)) Γ.fx = true → i * sz + j = o → K .junk (fk md (AV.keysL (cellsOf v)) ++ [.set k (.row sz rows')]) →
        ∃ acts w' β', K .junk acts ∧ (Instr.storeAt t ux uv).run P w = .ok () w' ∧ Rl Γ (s.acts acts) tm w' β' := by
      intro rows' o hlen hsz hob hrow hk hd ho hK
      have hkn := freshIn_spec hk
      have hdn := disj_spec hd
      obtain ⟨β1, f1, f2, f3, f4⟩ := fks h md hdn
      have hs1 := fks_blk_row s md hs hkn
      obtain ⟨bi, hβ, hb⟩ := f1.live hs1
      have hβ0 : β k = some bi := by rw [← f2 k hkn]; exact hβ
      obtain rfl := hx.loc_inv hβ0
      obtain ⟨g1, g2, g2', g3, g4⟩ := hb
      rw [g1, ho]
      have hpr := freezes_PRL h (xs := cellsOf v) (us := fun j => uv.cells.getD j undef) (fun j x hj => (hc j x hj).1) (fun k hk => hk) hps f3 f4
      rcases g4 with ⟨_, hr0⟩ | ⟨g4, cs, e, fz, g5, g6, g7, g8, g9⟩
      · -- no element at all: nothing is stored
        have hps0 : ps.length = 0 := by rw [hr0] at hob; simp only [List.length_nil, Nat.zero_mul] at hob; omega
        have hu0 : uv.cells.toList = [] := List.eq_nil_of_length_eq_zero (by rw [Array.length_toList]; omega)
        refine ⟨_, w, β1, hK, ?_, ?_⟩
        · simp only [Instr.storeAt, Instr.sureAddr, Sem.run_bind, Sem.run_pure, Result.andThen_ok, run_storeVar hn hl, hu0]
          rfl
        · rw [acts_append]
          show Rl Γ ((s.acts (fk md _)).set k (.row sz rows')) tm w β1
          have hr' : rows' = [] := List.eq_nil_of_length_eq_zero (by rw [hlen, hr0]; rfl)
          rw [hr']
          rw [hr0] at hs1
          exact { f1 with
            blks := fun y => by
              rw [St.blk_set]
              by_cases e : k = y
              · subst e; rw [if_pos rfl, ← hs1]; exact f1.blks k
              · rw [if_neg e]; exact f1.blks y
            used2 := fun y b hy => by
              rw [St.blk_set] at hy
              by_cases e : k = y
              · subst e; rw [if_pos rfl] at hy; cases hy; exact f1.used2 k _ hs1
              · rw [if_neg e] at hy; exact f1.used2 y b hy }
      · obtain ⟨w', cs', r1, r2, r3, r4, r5, r6, r7, r8, r9⟩ := run_stores P bi.b e fz uv.cells.toList o 0 cs w g5 g6 (by simp; omega) hone
        refine ⟨_, w', β1, hK, ?_, ?_⟩
        · simp only [Instr.storeAt, Instr.sureAddr, Sem.run_bind, Sem.run_pure, Result.andThen_ok, run_storeVar hn hl]
          exact r1
        · rw [acts_append]
          show Rl Γ ((s.acts (fk md _)).set k (.row sz rows')) tm w' β1
          refine f1.upd hβ g4 r5 (fun b hb => r6 b hb) r7 r8 r9 (by simp [Blk.keys]) fun had => ⟨g1, g2, by omega, hsz, .inr ⟨g4, cs', e, fz, r2, fun y hy => g6 y (by omega), by omega, by rw [hlen]; omega, fun x row y p hx hy => ?_⟩⟩
          rw [r4 _]
          simp only [Nat.add_zero, Array.length_toList, hl, ← hpl]
          rcases hrow x row y p hx hy with ⟨c1, c2, c3⟩ | ⟨c1, row0, c2, c3⟩
          · rw [if_pos ⟨c1, c2⟩, getD_toList]
            have hxl : x * sz + y - o < ps.length := by omega
            exact ⟨(hpr _ p c3).mono had, (hc _ _ (List.getElem?_eq_getElem (by omega))).2⟩
          · rw [if_neg c1]
            exact ⟨(g9 x row0 y p c2 c3).1.mono had, (g9 x row0 y p c2 c3).2⟩
    have hb0 := h.live hs
    obtain ⟨bi0, _, _, _, _, hsz0, _⟩ := hb0
    rcases hK with ⟨c1, rfl, c3, c4, c5, hK⟩ | ⟨rfl, rfl, rfl, c3, c4, c5, hK⟩
    · refine main _ (i * sz) (by simp) (fun x row hx => ?_) ?_ (fun x row y p hx hy => ?_) c4 c5 (by omega) hK
      · rw [List.getElem?_set] at hx
        by_cases e : i = x
        · rw [if_pos e, if_pos c3] at hx; cases hx; exact c1
        · rw [if_neg e] at hx; exact hsz0 x row hx
      · have : i * sz + sz ≤ rows.length * sz := by rw [← Nat.succ_mul]; exact Nat.mul_le_mul_right _ c3
        omega
      · rw [List.getElem?_set] at hx
        by_cases e : i = x
        · subst e
          rw [if_pos rfl, if_pos c3] at hx
          cases hx
          have hyl : y < ps.length := (List.getElem?_eq_some_iff.1 hy).1
          exact .inl ⟨by omega, by omega, by rw [show i * sz + y - i * sz = y from by omega]; exact hy⟩
        · have hne := e
          rw [if_neg e] at hx
          refine .inr ⟨fun hh => ?_, row, hx, hy⟩
          have hyl : y < sz := by have := hsz0 x row hx; have := (List.getElem?_eq_some_iff.1 hy).1; omega
          rw [c1] at hh
          obtain ⟨h2, h3⟩ := hh
          rcases Nat.lt_or_gt_of_ne hne with hlt | hgt
          · have : i * sz + sz ≤ x * sz := by rw [← Nat.succ_mul]; exact Nat.mul_le_mul_right _ hlt
            omega
          · have : x * sz + sz ≤ i * sz := by rw [← Nat.succ_mul]; exact Nat.mul_le_mul_right _ hgt
            omega
    · refine main _ 0 (by simp [singles]; omega) (fun x row hx => by obtain ⟨p, _, rfl⟩ := mem_singles hx; rfl) (by omega) (fun x row y p hx hy => ?_) c4 c5 (by omega) hK
      obtain ⟨q, hq, rfl⟩ := mem_singles hx
      cases y with
      | succ y => simp at hy
      | zero =>
        simp only [List.getElem?_cons_zero, Option.some.injEq] at hy
        subst hy
        have := (List.getElem?_eq_some_iff.1 hq).1
        exact .inl ⟨by omega, by omega, by simpa using hq⟩
  · exact hK.elim
end
end Go.Avc
