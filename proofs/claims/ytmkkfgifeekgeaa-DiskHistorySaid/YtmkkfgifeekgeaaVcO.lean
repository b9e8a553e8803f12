/- Slices, literals, append, copy, conversions: sound. Conditions: none. -/
import Derived.Test.YtmkkfgifeekgeaaVcN
import Derived.Deep.AppendSrc
import Derived.Deep.Upon
import Derived.Laws.IdiomStrings
import Derived.Laws.Tables
namespace Go.Avc
open Go.RowKit

/-- The bytes of rows of bytes. -/
theorem byteRows_get {bs : List UInt8} {i : Nat} (h : i < bs.length) : (byteRows bs)[i]? = some [.val (.int .u8 (bs[i].toNat : Int))] := by
  simp [byteRows, h]

section
variable {Γ : Ctx} {s : St} {tm : Array Value} {w : World} {β : BM} {P : Program} {K : Kont}

/-- A live row is given another name and other contents. -/
theorem Rl.moveK (h : Rl Γ s tm w β) {k : Nat} {bi : BI} (hβ : β k = some bi) (hv : bi.virt = false) (hfx : k ∉ Γ.fx) {d : Nat} (hd : d ∉ s.used) (hdfx : d ∉ Γ.fx) {bi' : BI} (hb : bi'.b = bi.b) (_ : bi'.virt = false)
    {w' : World} (hsz : w'.heap.size = w.heap.size) (hold : ∀ b, b ≠ bi.b → w'.heap[b]? = w.heap[b]?) (ho : w'.os = w.os) (ht : w'.tape = w.tape) (hp : w'.output = w.output) {sz : Nat} {rows : List (List PV)}
    (hblk : ∀ β' : BM, Ad w (Av Γ.X β) w' (Av Γ.X β') → BOK w' (Av Γ.X β') β' bi' (.row sz rows)) :
    ∃ β', Rl Γ ((s.kill k).new d (.row sz rows)) tm w' β' ∧ β' d = some bi' := by
  have hk' := h.killK hfx
  generalize hβ0 : (fun j => if j = k then none else β j) = β0 at hk'
  have z1 : β0 k = none := by rw [← hβ0]; simp
  have z2 : ∀ j, j ≠ k → β0 j = β j := fun j hj => by rw [← hβ0]; simp [hj]
  have hkd : d ≠ k := fun e => by
    have hbk := h.blks k
    rw [hβ] at hbk
    cases hs : s.blk k with
    | none => rw [hs] at hbk; exact hbk.elim
    | some blk => exact hd (e ▸ (h.used2 k blk hs).1)
  generalize hβ' : (fun j => if j = d then some bi' else β0 j) = β'
  have e1 : β' d = some bi' := by rw [← hβ']; simp
  have e2 : ∀ j, j ≠ d → β' j = β0 j := fun j hj => by rw [← hβ']; simp [hj]
  have e3 : ∀ j bj, j ≠ d → β' j = some bj → j ≠ k ∧ β j = some bj := fun j bj hjd hj => by
    rw [e2 j hjd] at hj
    have hjk : j ≠ k := fun e => by subst e; rw [z1] at hj; cases hj
    exact ⟨hjk, by rw [← z2 j hjk]; exact hj⟩
  have hav : ∀ b, Av Γ.X β' b → Av Γ.X β b := by
    rintro b (hx | ⟨j, bj, hj, hvj, rfl⟩)
    · exact .inl hx
    · by_cases e : j = d
      · subst e
        rw [e1] at hj; cases hj
        exact .inr ⟨k, bi, hβ, hv, hb.symm⟩
      · exact .inr ⟨j, bj, (e3 j bj e hj).2, hvj, rfl⟩
  have had : Ad w (Av Γ.X β) w' (Av Γ.X β') := ⟨by omega, fun b _ hA => ⟨hold b fun e => hA (.inr ⟨k, bi, hβ, hv, e.symm⟩), fun hA' => hA (hav b hA')⟩⟩
  -- values: out of the world w, the name k given up
  have arm : ∀ {p : AV} {v : Value}, d ∉ p.keys → AR w (Av Γ.X β) β p v → AR w' (Av Γ.X β') β' p v := by
    intro p v hdp hp
    have hkeys : ∀ j, j ≠ d → j ≠ k → β' j = β j := fun j h1 h2 => (e2 j h1).trans (z2 j h2)
    have hk0 : β' k = none := (e2 k (Ne.symm hkd)).trans z1
    induction hp with
    | junk v => exact .junk v
    | gh i t v => exact .gh i t v
    | pure p v hp => exact .pure p v (hp.mono had)
    | loc k' i j bi hb =>
      simp only [AV.keys, List.mem_singleton] at hdp
      by_cases e : k' = k
      · subst e; exact .locDead _ _ _ _ hk0
      · exact .loc k' i j bi ((hkeys k' (Ne.symm hdp) e).trans hb)
    | locDead k' i j v hb =>
      simp only [AV.keys, List.mem_singleton] at hdp
      by_cases e : k' = k
      · subst e; exact .locDead _ _ _ _ hk0
      · exact .locDead k' i j v ((hkeys k' (Ne.symm hdp) e).trans hb)
    | lsl k' i n bi cap hb hv hn hc hi hm =>
      simp only [AV.keys, List.mem_singleton] at hdp
      by_cases e : k' = k
      · subst e; exact .lslDead _ _ _ _ hk0
      · exact .lsl k' i n bi cap ((hkeys k' (Ne.symm hdp) e).trans hb) hv hn hc hi hm
    | lslV k' i bi a hb hi =>
      simp only [AV.keys, List.mem_singleton] at hdp
      by_cases e : k' = k
      · subst e; exact .lslDead _ _ _ _ hk0
      · exact .lslV k' i bi a ((hkeys k' (Ne.symm hdp) e).trans hb) hi
    | lslDead k' i n v hb =>
      simp only [AV.keys, List.mem_singleton] at hdp
      by_cases e : k' = k
      · subst e; exact .lslDead _ _ _ _ hk0
      · exact .lslDead k' i n v ((hkeys k' (Ne.symm hdp) e).trans hb)
    | agg cs vs hl _ ih => exact .agg cs vs hl fun j p hj => ih j p hj fun hm => hdp (by simp only [AV.keys]; exact AV.mem_keysL.2 ⟨p, List.mem_of_getElem? hj, hm⟩)
    | fn f cs vs hl _ ih => exact .fn f cs vs hl fun j p hj => ih j p hj fun hm => hdp (by simp only [AV.keys]; exact AV.mem_keysL.2 ⟨p, List.mem_of_getElem? hj, hm⟩)
    | tup cs vs hl _ ih => exact .tup cs vs hl fun j p hj => ih j p hj fun hm => hdp (by simp only [AV.keys]; exact AV.mem_keysL.2 ⟨p, List.mem_of_getElem? hj, hm⟩)
  refine ⟨β', ?_, e1⟩
  refine
  { size := h.size
    slots := fun t => arm (fun hm => hd (h.used1 t d hm)) (h.slots t)
    blks := fun j => ?_
    inj := fun j j' bj bj' hj hj' hvj hvj' hbb => ?_
    lt := fun j bj hj hvj => ?_
    notX := fun j bj hj hvj => ?_
    own := fun j bj hj hvj => ?_
    fixd := fun j hj => ?_
    used1 := fun t x hx => List.mem_cons_of_mem _ (h.used1 t x hx)
    used2 := fun j b hj => ?_
    keep := ⟨ho.trans h.keep.os, ht.trans h.keep.tape, hp.trans h.keep.output, by have := h.keep.size; omega, fun b hlt hE => (hold b fun e => ?_).trans (h.keep.block b hlt hE)⟩
    Xlt := fun b hb => Nat.lt_of_lt_of_le (h.Xlt b hb) (by first | omega | assumption) }
  · rw [St.blk_new, St.blk_kill]
    by_cases e : d = j
    · subst e
      rw [if_pos rfl, e1]
      exact hblk β' had
    · rw [if_neg e]
      by_cases e' : k = j
      · subst e'
        rw [if_pos rfl, e2 k (Ne.symm e), z1]
        trivial
      · rw [if_neg e', e2 j (Ne.symm e), z2 j (Ne.symm e')]
        have hb := h.blks j
        cases hs : s.blk j with
        | none =>
          rw [hs] at hb
          cases hbj : β j with
          | none => trivial
          | some x => rw [hbj] at hb; exact hb.elim
        | some blk' =>
          rw [hs] at hb
          cases hbj : β j with
          | none => rw [hbj] at hb; exact hb.elim
          | some x =>
            rw [hbj] at hb
            have hhold : x.virt = false → w'.heap[x.b]? = w.heap[x.b]? := fun hvx => hold _ fun e'' => e' (h.inj k j bi x hβ hbj hv hvx e''.symm)
            cases blk' with
            | box cells =>
              obtain ⟨h1, cs, e', fz, h2, h3, h4, h5, h6⟩ := hb
              refine ⟨h1, cs, e', fz, (hhold h1).trans h2, h3, h4, h5, fun y av hy => ⟨arm (fun hm => hd ((h.used2 j _ hs).2 d ?_)) (h6 y av hy).1, (h6 y av hy).2⟩⟩
              simp only [Blk.keys]
              exact AV.mem_keysL.2 ⟨av, List.mem_of_getElem? hy, hm⟩
            | row sz' rows' =>
              refine BOK.mono (β := β) (β' := β') (blk := .row sz' rows') had hb (fun y hy => ?_) hhold
              simp only [Blk.keys, List.not_mem_nil] at hy
  · by_cases e : j = d <;> by_cases e' : j' = d
    · rw [e, e']
    · subst e
      rw [e1] at hj; cases hj
      obtain ⟨g1, g2⟩ := e3 j' bj' e' hj'
      exact absurd (h.inj j' k bj' bi g2 hβ hvj' hv (by rw [← hbb, hb])) g1
    · subst e'
      rw [e1] at hj'; cases hj'
      obtain ⟨g1, g2⟩ := e3 j bj e hj
      exact absurd (h.inj j k bj bi g2 hβ hvj hv (by rw [hbb, hb])) g1
    · exact h.inj j j' bj bj' (e3 j bj e hj).2 (e3 j' bj' e' hj').2 hvj hvj' hbb
  · by_cases e : j = d
    · subst e
      rw [e1] at hj; cases hj
      rw [hb, hsz]; exact h.lt k bi hβ hv
    · rw [hsz]; exact h.lt j bj (e3 j bj e hj).2 hvj
  · by_cases e : j = d
    · subst e
      rw [e1] at hj; cases hj
      rw [hb]; exact h.notX k bi hβ hv
    · exact h.notX j bj (e3 j bj e hj).2 hvj
  · by_cases e : j = d
    · subst e
      rw [e1] at hj; cases hj
      rw [hb]; exact h.own k bi hβ hv
    · exact h.own j bj (e3 j bj e hj).2 hvj
  · rw [e2 j (fun e => hdfx (e ▸ hj)), z2 j (fun e => hfx (e ▸ hj))]
    exact h.fixd j hj
  · rw [St.blk_new, St.blk_kill] at hj
    by_cases e : d = j
    · subst e
      rw [if_pos rfl] at hj; cases hj
      exact ⟨List.mem_cons_self, fun x hx => by simp [Blk.keys] at hx⟩
    · rw [if_neg e] at hj
      by_cases e' : k = j
      · rw [if_pos e'] at hj; cases hj
      · rw [if_neg e'] at hj
        exact ⟨List.mem_cons_of_mem _ (h.used2 j b hj).1, fun x hx => List.mem_cons_of_mem _ ((h.used2 j b hj).2 x hx)⟩
  · subst e
    rcases h.own k bi hβ hv with h1 | h1
    · omega
    · exact hE h1

theorem AR.drew {A : Nat → Prop} {x : AV} {u : Value} (h : AR w A β x u) : AR w.drew A β x u :=
  h.mono (w' := w.drew) ⟨Nat.le_refl w.heap.size, fun _ _ hA => ⟨rfl, hA⟩⟩ fun _ _ => rfl

theorem srcKind_spec {t : TypeId} (h : srcKind P t = true) : (∃ e', P.underlying t = some (.slice e')) ∨ P.underlying t = some .string := by
  unfold srcKind at h
  split at h
  · rename_i e he; exact .inl ⟨e, he⟩
  · rename_i he; exact .inr he
  · cases h

/-- Cells out of rows. -/
theorem cells_of_rows {rows : List (List PV)} {sz : Nat} {cs : Array Value} {A : Nat → Prop} (hl : ∀ (i : Nat) (row : List PV), rows[i]? = some row → row.length = sz) (hs : cs.size = rows.length * sz)
    (hc : ∀ (i : Nat) (row : List PV) (j : Nat) (p : PV), rows[i]? = some row → i < rows.length → row[j]? = some p → PR w A p (cs.getD (i * sz + j) undef) ∧ (cs.getD (i * sz + j) undef).oneCell' = true) :
    ∀ u ∈ cs.toList, u.oneCell' = true := fun u hu => by
  obtain ⟨y, hy, rfl⟩ := List.getElem_of_mem hu
  have hy' : y < rows.length * sz := by rw [← hs]; simpa using hy
  have hsz : 0 < sz := by
    rcases Nat.eq_zero_or_pos sz with e | e
    · subst e; simp at hy'
    · exact e
  have h1 : y / sz < rows.length := Nat.div_lt_of_lt_mul (by rw [Nat.mul_comm]; exact hy')
  have h2 : y % sz < sz := Nat.mod_lt _ hsz
  have h3 : y / sz * sz + y % sz = y := by rw [Nat.mul_comm]; exact Nat.div_add_mod y sz
  have hrow : rows[y / sz]? = some rows[y / sz] := List.getElem?_eq_getElem h1
  have hlen := hl _ _ hrow
  have hp : rows[y / sz][y % sz]? = some rows[y / sz][y % sz] := List.getElem?_eq_getElem (by omega)
  have := (hc _ _ _ _ hrow h1 hp).2
  rw [h3, Array.getD_eq_getD_getElem?, Array.getElem?_eq_getElem (by simpa using hy)] at this
  simpa using this

theorem append_sound (h : Rl Γ s tm w β) {t tx ty : TypeId} {x y : AV} {ux uy : Value} {d : Nat} (hk : srcKind P tx = true) (hd : d ∉ s.used) (hdfx : d ∉ Γ.fx) (hx : AR w (Av Γ.X β) β x ux) (hy : AR w (Av Γ.X β) β y uy)
    (hK : opAppend P t x y s.blk Γ.fx d K) : Out Γ s tm K ((Builtin.append_ #[t, tx] ty #[ux, uy]).run P w) := by
  unfold opAppend at hK
  split at hK
  case h_2 => exact hK.elim
  rename_i e ht
  split at hK
  case h_2 => exact hK.elim
  rename_i sz hs
  split at hK
  case h_2 => exact hK.elim
  rename_i by_ hby
  split at hK
  case h_2 => exact hK.elim
  rename_i z hz
  split at hK
  case h_2 => exact hK.elim
  rename_i hzl
  split at hK
  case h_2 => exact hK.elim
  rename_i news hnews
  obtain ⟨i, zv, hi, hzv, rfl, hone, _⟩ := zeroOf_spec hz
  have hsz : i.size = sz + 1 := szOf_info hs hi
  have hbyi := bytesOf_info hby hi
  have hzs : zv.cells.size = sz + 1 := by have := natEq_spec hzl; simp at this; omega
  obtain ⟨g1, g2, g3⟩ := srcRows_spec h hy hnews
  obtain ⟨cs, c1, c2, c3⟩ := g3 news.length (Nat.le_refl _)
  have hsrc : Src P i.size tx uy news.length cs.toList w := by
    rw [hsz]
    exact ⟨srcKind_spec hk, g1, by rw [Array.toArray_toList]; exact c1 w rfl, by rw [Array.toArray_toList]; exact c1 w.drew rfl, by rw [Array.length_toList, c2], cells_of_rows g2 c2 c3⟩
  have hc3 : ∀ (i : Nat) (row : List PV) (j : Nat) (p : PV), news[i]? = some row → row[j]? = some p → PR w (Av Γ.X β) p (cs.getD (i * (sz + 1) + j) undef) ∧ (cs.getD (i * (sz + 1) + j) undef).oneCell' = true :=
    fun i row j p hi hj => c3 i row j p hi (List.getElem?_eq_some_iff.1 hi).1 hj
  -- a new row
  have grow : ∀ (base : Option Addr) (n cap : Nat) (olds : List (List PV)) (ocs : List Value), (∀ (i : Nat) (row : List PV), olds[i]? = some row → row.length = sz + 1) → olds.length = n → ocs.length = n * (sz + 1) →
      (Builtin.firstCells i.size n (.slice base n cap)).run P w.drew = .ok ocs.toArray w.drew →
      (∀ (i : Nat) (row : List PV) (j : Nat) (p : PV), olds[i]? = some row → row[j]? = some p → PR w (Av Γ.X β) p (ocs.getD (i * (sz + 1) + j) undef) ∧ (ocs.getD (i * (sz + 1) + j) undef).oneCell' = true) →
      cap < n + news.length → (n + news.length) * by_ ≤ 140737488355328 → n + news.length ≤ 140737488355328 →
      ∀ (s' : St) (β1 : BM), Rl Γ s' tm w β1 → (∀ {p : PV} {v : Value}, PR w (Av Γ.X β) p v → PR w (Av Γ.X β1) p v) → d ∉ s'.used →
      ∃ u w' β', (Builtin.append_ #[t, tx] ty #[.slice base n cap, uy]).run P w = .ok u w' ∧ Rl Γ (s'.new d (.row (sz + 1) (olds ++ news))) tm w' β' ∧ AR w' (Av Γ.X β') β' (.lsl d 0 (n + news.length)) u := by
    intro base n cap olds ocs ho1 ho2 ho3 ho4 ho5 hcap hb1 hb2 s' β1 h' hup hds
    have hr := run_append_grow_src (P := P) w t tx ty e i zv ht hi hzv base n cap ocs ho4 uy news.length cs.toList hsrc hcap (by omega) (by rw [hbyi]; exact growslice_fits hcap hb1)
    have hge := grownCap_ge w (n + news.length) cap e
    have hle := grownCap_le_maxLen w (n + news.length) cap e (by unfold maxLen; omega)
    have hget : ∀ (y : Nat), y < (n + news.length) * (sz + 1) → (((ocs ++ cs.toList).toArray ++ Builtin.zeroCells zv.cells (grownCap w (n + news.length) cap e - (n + news.length)))).getD y undef = if y < n * (sz + 1) then ocs.getD y undef else cs.getD (y - n * (sz + 1)) undef := fun y hy => by
      rw [Array.getD_eq_getD_getElem?, Array.getElem?_append_left (by simp [ho3, c2]; rw [Nat.add_mul] at hy; exact hy)]
      simp only [List.getElem?_toArray]
      by_cases hyl : y < n * (sz + 1)
      · rw [if_pos hyl, List.getElem?_append_left (by omega)]; simp [List.getD]
      · rw [if_neg hyl, List.getElem?_append_right (by omega), ho3]; simp [Array.getD_eq_getD_getElem?]
    obtain ⟨β', q1, q2⟩ := row_out h' (w1 := w.drew) rfl rfl rfl rfl hds hdfx e (sz := sz + 1) (rows := olds ++ news)
      (cs := (ocs ++ cs.toList).toArray ++ Builtin.zeroCells zv.cells (grownCap w (n + news.length) cap e - (n + news.length))) (0, 0) (NF.zero _) (by omega)
      (fun x row hx => by
        rw [List.getElem?_append] at hx
        split at hx
        · exact ho1 x row hx
        · exact g2 _ row hx)
      (fun x row y p hx hy => by
        have hxl := (List.getElem?_eq_some_iff.1 hx).1
        simp only [List.length_append] at hxl
        rw [List.getElem?_append] at hx
        have hrl : row.length = sz + 1 := by
          split at hx
          · exact ho1 x row hx
          · exact g2 _ row hx
        have hyl : y < sz + 1 := by have := (List.getElem?_eq_some_iff.1 hy).1; omega
        have hm1 : x * (sz + 1) + (sz + 1) ≤ (n + news.length) * (sz + 1) := by rw [← Nat.succ_mul]; exact Nat.mul_le_mul_right _ (by omega)
        rw [hget _ (by omega)]
        split at hx
        · have hm2 : x * (sz + 1) + (sz + 1) ≤ n * (sz + 1) := by rw [← Nat.succ_mul]; exact Nat.mul_le_mul_right _ (by omega)
          rw [if_pos (by omega)]
          exact ⟨hup (ho5 x row y p hx hy).1, (ho5 x row y p hx hy).2⟩
        · have hm2 : n * (sz + 1) ≤ x * (sz + 1) := Nat.mul_le_mul_right _ (by omega)
          rw [if_neg (by omega)]
          have e1 : x * (sz + 1) + y - n * (sz + 1) = (x - olds.length) * (sz + 1) + y := by rw [ho2, Nat.sub_mul]; omega
          rw [e1]
          exact ⟨hup (hc3 _ row y p hx hy).1, (hc3 _ row y p hx hy).2⟩)
      (cap := grownCap w (n + news.length) cap e) (by simp; omega)
      (by
        simp only [Array.size_append, List.size_toArray, List.length_append, ho3, Array.length_toList, c2, size_zeroCells, hzs]
        rw [← Nat.add_mul, ← Nat.add_mul]
        exact Nat.mul_le_mul_right _ (by omega)) hle
    refine ⟨_, _, β', hr, q1, ?_⟩
    simpa [ho2] using q2
  -- the row stays where it is
  split at hK
  · -- nil
    obtain ⟨hb1, hb2, hK⟩ := hK
    rw [hx.val_inv]
    by_cases hn : news.length = 0
    · have hnil : news = [] := List.length_eq_zero_iff.1 hn
      subst hnil
      have hcs : cs.toList = [] := List.length_eq_zero_iff.1 (by simp [c2])
      rw [hcs] at hsrc
      have hr := run_append_nothing (P := P) w t tx ty e i ht hi none 0 0 (Nat.le_refl _) uy hsrc
      have hn' := h.newK hd hdfx ⟨0, sz + 1, 0, 0, true⟩ (.row (sz + 1) []) (w' := w) (Nat.le_refl _) (fun _ _ => rfl) rfl rfl rfl (fun hv => by cases hv) (by simp [Blk.keys])
        (fun β' e1 e2 had => ⟨rfl, by omega, rfl, by simp, .inl ⟨rfl, rfl⟩⟩)
      exact ⟨_, _, _, _, _, hK, hr, hn', .lslV d 0 ⟨0, sz + 1, 0, 0, true⟩ none (by simp) (Nat.zero_le _), by simp [AV.keys, St.acts, St.act, St.new]⟩
    · obtain ⟨u, w', β', r1, r2, r3⟩ := grow none 0 0 [] [] (by simp) rfl (by simp) (run_firstCells_none w.drew _ _ _ _) (by simp) (by omega) (by rw [Nat.zero_add]; exact hb1) (by omega) s β h (fun hp => hp) hd
      rw [Nat.zero_add] at r3
      exact ⟨_, _, _, _, β', hK, r1, by simpa [St.acts, St.act] using r2, r3, by simp [AV.keys, St.acts, St.act, St.new]⟩
  · rename_i k n
    split at hK
    case h_2 => exact hK.elim
    rename_i sz' rows hblk
    split at hK
    case h_2 => exact hK.elim
    rename_i hsz'
    split at hK
    case h_2 => exact hK.elim
    rename_i hkfx
    have hsz' := Nat.eq_of_beq_eq_true hsz'
    subst hsz'
    obtain ⟨hn, hb1, hb2, hK⟩ := hK
    subst hn
    have hkfx := freshIn_spec hkfx
    obtain ⟨bi, hβ, hb⟩ := h.live hblk
    have hb' := hb
    obtain ⟨b1, b2, b2', b3, b4⟩ := hb'
    have hup : ∀ {p : PV} {v : Value}, PR w (Av Γ.X β) p v → PR w (Av Γ.X (fun j => if j = k then none else β j)) p v := fun hp =>
      hp.mono ⟨Nat.le_refl _, fun b _ hA => ⟨rfl, fun hA' => hA (by
        rcases hA' with hx | ⟨j, bj, hj, hv, hbb⟩
        · exact .inl hx
        · refine .inr ⟨j, bj, ?_, hv, hbb⟩
          by_cases e : j = k
          · simp [e] at hj
          · simpa [e] using hj)⟩⟩
    obtain ⟨L, hrl⟩ : ∃ L, L = rows.length := ⟨_, rfl⟩
    rw [← hrl] at hx
    cases hx with
    | lslDead _ _ _ _ hd => rw [hβ] at hd; cases hd
    | lslV _ _ bi' a hbb hil =>
      have hrl0 : rows = [] := List.length_eq_zero_iff.1 hrl.symm
      subst hrl0
      by_cases hn : news.length = 0
      · have hnil : news = [] := List.length_eq_zero_iff.1 hn
        subst hnil
        have hcs : cs.toList = [] := List.length_eq_zero_iff.1 (by simp [c2])
        rw [hcs] at hsrc
        have hr := run_append_nothing (P := P) w t tx ty e i ht hi a 0 0 (Nat.le_refl _) uy hsrc
        have hn' := (h.killK hkfx).newK (k := d) hd hdfx ⟨0, sz + 1, 0, 0, true⟩ (.row (sz + 1) []) (w' := w) (Nat.le_refl _) (fun _ _ => rfl) rfl rfl rfl (fun hv => by cases hv) (by simp [Blk.keys])
          (fun β' e1 e2 had => ⟨rfl, by omega, rfl, by simp, .inl ⟨rfl, rfl⟩⟩)
        exact ⟨_, _, _, _, _, hK, hr, hn', .lslV d 0 ⟨0, sz + 1, 0, 0, true⟩ a (by simp) (Nat.zero_le _), by simp [AV.keys, St.acts, St.act, St.new]⟩
      · obtain ⟨u, w', β', r1, r2, r3⟩ := grow a 0 0 [] [] (by simp) rfl (by simp) (by cases a <;> simp [Builtin.firstCells, loadCells, loadCellsFrom]) (by simp) (by omega) (by simpa using hb1) (by simpa using hb2) _ _ (h.killK hkfx) hup hd
        exact ⟨_, _, _, _, β', hK, r1, by simpa [St.acts, St.act] using r2, by simpa using r3, by simp [AV.keys, St.acts, St.act, St.new]⟩
    | lsl _ _ _ bi' cap hbb hv hncap hcc hil hm =>
      rw [hβ] at hbb; cases hbb
      subst hrl
      rcases b4 with ⟨b4, _⟩ | ⟨_, cur, et, fz, b5, b6, b7, b8, b9⟩
      · rw [hv] at b4; cases b4
      rw [Nat.zero_mul, Nat.zero_add] at *
      by_cases hroom : rows.length + news.length ≤ cap
      · -- in place
        have hfit : rows.length * (sz + 1) + (news.length * (sz + 1)) ≤ cur.size := by
          rw [← Nat.add_mul, ← b7]
          refine Nat.le_trans (Nat.mul_le_mul_right _ hroom) ?_
          rw [b1] at hcc; exact hcc
        have hcl : cs.toList.length = news.length * (sz + 1) := by simp [c2]
        have hr := run_append_room_src (P := P) w t tx ty e i ht hi bi.b 0 rows.length cap uy news.length cs.toList hsrc hroom
          (fun j hj => by
            rw [hsz, getD_cell b5 (by rw [hcl] at hj; omega)]; rfl)
          (fun j hj => by
            rw [hsz]
            have := b6 (0 + rows.length * (sz + 1) + j) (by rw [hcl] at hj; omega)
            simp only [World.frozen?, b5]
            simpa using this)
        obtain ⟨w', cs', r1, r2, r3, r4, r5, r6, r7, r8, r9⟩ := run_stores P bi.b et fz cs.toList (rows.length * (sz + 1)) 0 cur w b5 b6 (by omega) hsrc.one
        have hst := run_storeCells_cells (P := P) bi.b (rows.length * (sz + 1)) cs.toList 0 w (fun j hj => by rw [getD_cell b5 (by omega)]; rfl) (fun j hj => by
            have := b6 (rows.length * (sz + 1) + 0 + j) (by omega)
            simp only [World.frozen?, b5]
            simpa using this) hsrc.one
        rw [hst] at r1
        have hw' : w.setCells bi.b (0 + rows.length * i.size) cs.toList = w' := by
          rw [hsz, Nat.zero_add]
          injection r1 with _ r1
        rw [hw'] at hr
        obtain ⟨β', q1, q2⟩ := h.moveK (w' := w') hβ hv hkfx hd hdfx (bi' := ⟨bi.b, sz + 1, bi.tot, rows.length + news.length, false⟩) rfl rfl r5 (fun b hbne => r6 b hbne) r7 r8 r9 (sz := sz + 1) (rows := rows ++ news)
          (fun β' had => ⟨rfl, by omega, by simp, fun x row hx => by
              rw [List.getElem?_append] at hx
              split at hx
              · exact b3 x row hx
              · exact g2 _ row hx, .inr ⟨rfl, cs', et, fz, r2, fun j hj => b6 j (by omega), b7.trans r3.symm, by simp only [List.length_append]; rw [Nat.add_mul]; show _ ≤ bi.tot; omega, fun x row y p hx hy => by
              have hxl := (List.getElem?_eq_some_iff.1 hx).1
              simp only [List.length_append] at hxl
              rw [List.getElem?_append] at hx
              have hrl : row.length = sz + 1 := by
                split at hx
                · exact b3 x row hx
                · exact g2 _ row hx
              have hyl : y < sz + 1 := by have := (List.getElem?_eq_some_iff.1 hy).1; omega
              rw [r4]
              split at hx
              · have hm2 : x * (sz + 1) + (sz + 1) ≤ rows.length * (sz + 1) := by rw [← Nat.succ_mul]; exact Nat.mul_le_mul_right _ (by omega)
                rw [if_neg (by omega)]
                exact ⟨(b9 x row y p hx hy).1.mono had, (b9 x row y p hx hy).2⟩
              · have hm2 : rows.length * (sz + 1) ≤ x * (sz + 1) := Nat.mul_le_mul_right _ (by omega)
                have hm1 : x * (sz + 1) + (sz + 1) ≤ (rows.length + news.length) * (sz + 1) := by rw [← Nat.succ_mul]; exact Nat.mul_le_mul_right _ (by omega)
                rw [Nat.add_mul] at hm1
                rw [if_pos (by rw [hcl]; omega), getD_toList]
                have e1 : x * (sz + 1) + y - (rows.length * (sz + 1) + 0) = (x - rows.length) * (sz + 1) + y := by rw [Nat.sub_mul]; omega
                rw [e1]
                exact ⟨(hc3 _ row y p hx hy).1.mono had, (hc3 _ row y p hx hy).2⟩⟩⟩)
        refine ⟨_, _, _, _, β', hK, hr, by simpa [St.acts, St.act] using q1, ?_, by simp [AV.keys, St.acts, St.act, St.new]⟩
        have := AR.lsl (w := w') (A := Av Γ.X β') (β := β') d 0 (rows.length + news.length) _ cap q2 rfl hroom (by rw [Nat.zero_add]; show cap * (sz + 1) ≤ bi.tot; rw [b1] at hcc; exact hcc) (by rw [Nat.zero_add]; exact Nat.le_refl _) hm
        simpa using this
      · have hcap0 : rows.length * (sz + 1) ≤ cur.size := by omega
        obtain ⟨u, w', β', r1, r2, r3⟩ := grow (some ⟨bi.b, 0, none⟩) rows.length cap rows (((List.range (rows.length * (sz + 1))).map fun y => cur.getD y undef)) b3 rfl (by simp)
          (by
            rw [hsz]
            simp only [Builtin.firstCells]
            refine run_loadCells (P := P) w.drew _ (rows.length * (sz + 1)) _ fun y hy => ?_
            rw [Addr.add_lit, Nat.zero_add]
            exact getD_cell (w := w) b5 (by omega))
          (fun x row y p hx hy => by
            have hrl := b3 x row hx
            have hxl := (List.getElem?_eq_some_iff.1 hx).1
            have hyl : y < sz + 1 := by have := (List.getElem?_eq_some_iff.1 hy).1; omega
            have hm2 : x * (sz + 1) + (sz + 1) ≤ rows.length * (sz + 1) := by rw [← Nat.succ_mul]; exact Nat.mul_le_mul_right _ (by omega)
            have e1 : ((List.range (rows.length * (sz + 1))).map fun y => cur.getD y undef).getD (x * (sz + 1) + y) undef = cur.getD (x * (sz + 1) + y) undef := by
              rw [List.getD, List.getElem?_map, List.getElem?_range (by omega)]; rfl
            rw [e1]
            exact b9 x row y p hx hy) (by omega) hb1 hb2 _ _ (h.killK hkfx) hup hd
        exact ⟨_, _, _, _, β', hK, r1, by simpa [St.acts, St.act] using r2, r3, by simp [AV.keys, St.acts, St.act, St.new]⟩
  · exact hK.elim
end
end Go.Avc
