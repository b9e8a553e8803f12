/- Steps of the relation between abstract and concrete states: a slot is written, a block is made, written, given up; what a value reads as once no local block is left. Conditions: none. -/
import Derived.Test.YtmkkfgifeekgeaaVcA
namespace Go.Avc
open Go.RowKit

theorem getD_set (tm : Array Value) (d : Nat) (u : Value) (t : Nat) (hd : d < tm.size) : (tm.setIfInBounds d u).getD t undef = if d = t then u else tm.getD t undef := by
  simp only [Array.getD_eq_getD_getElem?, Array.getElem?_setIfInBounds]
  by_cases h : d = t
  · subst h; simp [hd]
  · simp [h]

section
variable {Γ : Ctx} {s : St} {tm : Array Value} {w : World} {β : BM}

theorem Rl.put (h : Rl Γ s tm w β) {d : Nat} {v : AV} {u : Value} (hd : d < Γ.N) (hv : AR w (Av Γ.X β) β v u) (hk : ∀ k ∈ v.keys, k ∈ s.used) : Rl Γ (s.put d v) (tm.setIfInBounds d u) w β :=
  { h with
    size := by simp [h.size]
    slots := fun t => by
      rw [St.get_put, getD_set _ _ _ _ (by rw [h.size]; exact hd)]
      by_cases e : d = t
      · simpa [e] using hv
      · simpa [e] using h.slots t
    used1 := fun t k hkt => by
      rw [St.get_put] at hkt
      by_cases e : d = t
      · rw [if_pos e] at hkt; exact hk k hkt
      · rw [if_neg e] at hkt; exact h.used1 t k hkt }

/-- The heap has stayed as it was. -/
theorem Rl.heap {w' : World} (h : Rl Γ s tm w β) (hh : w'.heap = w.heap) (ho : w'.os = w.os) (ht : w'.tape = w.tape) (hp : w'.output = w.output) : Rl Γ s tm w' β := by
  have had : Ad w (Av Γ.X β) w' (Av Γ.X β) := ⟨by rw [hh]; exact Nat.le_refl _, fun b _ hb => ⟨by rw [hh], hb⟩⟩
  exact
  { h with
    slots := fun t => (h.slots t).mono had fun _ _ => rfl
    blks := fun k => by
      have := h.blks k
      revert this
      cases β k <;> cases s.blk k <;> simp only [BO, imp_self]
      intro hb
      exact hb.mono had (fun _ _ => rfl) fun _ => by rw [hh]
    lt := fun k bi hk hv => by rw [hh]; exact h.lt k bi hk hv
    Xlt := fun b hb => by rw [hh]; exact h.Xlt b hb
    keep := h.keep.trans ⟨ho, ht, hp, by rw [hh]; exact Nat.le_refl _, fun b _ _ => by rw [hh]⟩ }

theorem Rl.none_of (h : Rl Γ s tm w β) {k : Nat} (hk : k ∉ s.used) : β k = none := by
  have hb := h.blks k
  cases hβ : β k with
  | none => rfl
  | some bi =>
    rw [hβ] at hb
    cases hs : s.blk k with
    | none => rw [hs] at hb; exact hb.elim
    | some blk => exact absurd (h.used2 k blk hs).1 hk

theorem av_ext {X : Nat → Prop} {β β' : BM} {k : Nat} {bi : BI} (h0 : β k = none) (hk : β' k = some bi) (ho : ∀ j, j ≠ k → β' j = β j) {b : Nat} (hb : ¬ Av X β b) (hne : bi.virt = false → bi.b ≠ b) : ¬ Av X β' b := by
  rintro (hx | ⟨j, bj, hj, hv, rfl⟩)
  · exact hb (.inl hx)
  · by_cases e : j = k
    · subst e
      rw [hk] at hj
      cases hj
      exact hne hv rfl
    · exact hb (.inr ⟨j, bj, by rw [← ho j e]; exact hj, hv, rfl⟩)

/-- A local block is made (or, virt, only its name). -/
theorem Rl.newK (h : Rl Γ s tm w β) {k : Nat} (hk : k ∉ s.used) (hfx : k ∉ Γ.fx) (bi : BI) (blk : Blk) {w' : World} (hsz : w.heap.size ≤ w'.heap.size)
    (hold : ∀ b, b < w.heap.size → w'.heap[b]? = w.heap[b]?) (ho : w'.os = w.os) (ht : w'.tape = w.tape) (hp : w'.output = w.output)
    (hb : bi.virt = false → bi.b = w.heap.size ∧ w.heap.size < w'.heap.size)
    (hbk : ∀ k' ∈ blk.keys, k' ∈ s.used)
    (hblk : ∀ β' : BM, β' k = some bi → (∀ j, j ≠ k → β' j = β j) → Ad w (Av Γ.X β) w' (Av Γ.X β') → BOK w' (Av Γ.X β') β' bi blk) :
    Rl Γ (s.new k blk) tm w' (fun j => if j = k then some bi else β j) := by
  generalize hβ' : (fun j => if j = k then some bi else β j) = β'
  have e1 : β' k = some bi := by rw [← hβ']; simp
  have e2 : ∀ j, j ≠ k → β' j = β j := fun j hj => by rw [← hβ']; simp [hj]
  have h0 := h.none_of hk
  have had : Ad w (Av Γ.X β) w' (Av Γ.X β') := ⟨hsz, fun b hlt hA => ⟨hold b hlt, av_ext h0 e1 e2 hA fun hv => by have := (hb hv).1; omega⟩⟩
  have hu : ∀ {l : List Nat}, (∀ x ∈ l, x ∈ s.used) → ∀ x ∈ l, β' x = β x := fun hl x hx => e2 x fun e => hk (e ▸ hl x hx)
  have hX : ∀ b, Γ.X b → b < w.heap.size := h.Xlt
  refine
  { size := h.size
    slots := fun t => (h.slots t).mono had (hu (h.used1 t))
    blks := fun j => ?_
    inj := fun j j' bj bj' hj hj' hv hv' hbb => ?_
    lt := fun j bj hj hv => ?_
    notX := fun j bj hj hv => ?_
    own := fun j bj hj hv => ?_
    fixd := fun j hj => (e2 j fun e => hfx (e ▸ hj)).trans (h.fixd j hj)
    used1 := fun t x hx => List.mem_cons_of_mem _ (h.used1 t x hx)
    used2 := fun j b hj => ?_
    keep := h.keep.trans ⟨ho, ht, hp, hsz, fun b hlt _ => hold b hlt⟩
    Xlt := fun b hb => Nat.lt_of_lt_of_le (h.Xlt b hb) hsz }
  · rw [St.blk_new]
    by_cases e : k = j
    · subst e
      rw [if_pos rfl, e1]
      exact hblk β' e1 e2 had
    · rw [if_neg e, e2 j (Ne.symm e)]
      have hb := h.blks j
      cases hs : s.blk j with
      | none =>
        rw [hs] at hb
        cases hbj : β j with
        | none => trivial
        | some x => rw [hbj] at hb; exact hb.elim
      | some blk' =>
        rw [hs] at hb
        cases hbj : β j with
        | none => rw [hbj] at hb; exact hb.elim
        | some x =>
          rw [hbj] at hb
          exact BOK.mono had hb (hu (h.used2 j blk' hs).2) fun hv => hold _ (h.lt j x hbj hv)
  · by_cases e : j = k <;> by_cases e' : j' = k
    · rw [e, e']
    · subst e
      rw [e1] at hj; cases hj
      rw [e2 j' e'] at hj'
      have := h.lt j' bj' hj' hv'
      have := (hb hv).1
      omega
    · subst e'
      rw [e1] at hj'; cases hj'
      rw [e2 j e] at hj
      have := h.lt j bj hj hv
      have := (hb hv').1
      omega
    · rw [e2 j e] at hj
      rw [e2 j' e'] at hj'
      exact h.inj j j' bj bj' hj hj' hv hv' hbb
  · by_cases e : j = k
    · subst e
      rw [e1] at hj; cases hj
      have := hb hv
      omega
    · rw [e2 j e] at hj
      exact Nat.lt_of_lt_of_le (h.lt j bj hj hv) hsz
  · by_cases e : j = k
    · subst e
      rw [e1] at hj; cases hj
      intro hx
      have := hX _ hx
      have := (hb hv).1
      omega
    · rw [e2 j e] at hj
      exact h.notX j bj hj hv
  · by_cases e : j = k
    · subst e
      rw [e1] at hj; cases hj
      have h1 := (hb hv).1
      have h2 := h.keep.size
      exact .inl (by omega)
    · rw [e2 j e] at hj
      exact h.own j bj hj hv
  · rw [St.blk_new] at hj
    by_cases e : k = j
    · subst e
      rw [if_pos rfl] at hj; cases hj
      exact ⟨List.mem_cons_self, fun x hx => List.mem_cons_of_mem _ (hbk x hx)⟩
    · rw [if_neg e] at hj
      exact ⟨List.mem_cons_of_mem _ (h.used2 j b hj).1, fun x hx => List.mem_cons_of_mem _ ((h.used2 j b hj).2 x hx)⟩

/-- A live local block is written. -/
theorem Rl.upd (h : Rl Γ s tm w β) {k : Nat} {bi : BI} (hβ : β k = some bi) (hv : bi.virt = false) {w' : World} (hsz : w'.heap.size = w.heap.size)
    (hold : ∀ b, b ≠ bi.b → w'.heap[b]? = w.heap[b]?) (ho : w'.os = w.os) (ht : w'.tape = w.tape) (hp : w'.output = w.output) {blk : Blk}
    (hbk : ∀ k' ∈ blk.keys, k' ∈ s.used)
    (hblk : Ad w (Av Γ.X β) w' (Av Γ.X β) → BOK w' (Av Γ.X β) β bi blk) : Rl Γ (s.set k blk) tm w' β := by
  have had : Ad w (Av Γ.X β) w' (Av Γ.X β) := ⟨by omega, fun b _ hA => ⟨hold b fun e => hA (.inr ⟨k, bi, hβ, hv, e.symm⟩), hA⟩⟩
  refine
  { size := h.size
    slots := fun t => (h.slots t).mono had fun _ _ => rfl
    blks := fun j => ?_
    inj := h.inj
    lt := fun j bj hj hv => by rw [hsz]; exact h.lt j bj hj hv
    notX := h.notX
    own := h.own
    fixd := h.fixd
    used1 := h.used1
    used2 := fun j b hj => ?_
    keep := ⟨ho.trans h.keep.os, ht.trans h.keep.tape, hp.trans h.keep.output, by have := h.keep.size; omega, fun b hlt hE => (hold b fun e => ?_).trans (h.keep.block b hlt hE)⟩
    Xlt := fun b hb => by rw [hsz]; exact h.Xlt b hb }
  · rw [St.blk_set]
    by_cases e : k = j
    · subst e
      rw [if_pos rfl, hβ]
      exact hblk had
    · rw [if_neg e]
      have hb := h.blks j
      cases hs : s.blk j with
      | none =>
        rw [hs] at hb
        cases hbj : β j with
        | none => trivial
        | some x => rw [hbj] at hb; exact hb.elim
      | some blk' =>
        rw [hs] at hb
        cases hbj : β j with
        | none => rw [hbj] at hb; exact hb.elim
        | some x =>
          rw [hbj] at hb
          exact BOK.mono had hb (fun _ _ => rfl) fun hvx => hold _ fun e' => e (h.inj k j bi x hβ hbj hv hvx e'.symm)
  · rw [St.blk_set] at hj
    by_cases e : k = j
    · subst e
      rw [if_pos rfl] at hj; cases hj
      refine ⟨?_, hbk⟩
      have hb := h.blks k
      rw [hβ] at hb
      cases hs : s.blk k with
      | none => rw [hs] at hb; exact hb.elim
      | some blk' => exact (h.used2 k blk' hs).1
    · rw [if_neg e] at hj
      exact h.used2 j b hj
  · subst e
    rcases h.own k bi hβ hv with h1 | h1
    · omega
    · exact hE h1

/-- A live local block is given up: nothing reads it any more as changing. -/
theorem Rl.killK (h : Rl Γ s tm w β) {k : Nat} (hfx : k ∉ Γ.fx) : Rl Γ (s.kill k) tm w (fun j => if j = k then none else β j) := by
  generalize hβ' : (fun j => if j = k then none else β j) = β'
  have e1 : β' k = none := by rw [← hβ']; simp
  have e2 : ∀ j, j ≠ k → β' j = β j := fun j hj => by rw [← hβ']; simp [hj]
  have e3 : ∀ j bj, β' j = some bj → j ≠ k ∧ β j = some bj := fun j bj hj => by
    by_cases e : j = k
    · subst e; rw [e1] at hj; cases hj
    · exact ⟨e, by rw [← e2 j e]; exact hj⟩
  have had : Ad w (Av Γ.X β) w (Av Γ.X β') := ⟨Nat.le_refl _, fun b _ hA => ⟨rfl, fun hA' => hA (by
    rcases hA' with hx | ⟨j, bj, hj, hv, hb⟩
    · exact .inl hx
    · exact .inr ⟨j, bj, (e3 j bj hj).2, hv, hb⟩)⟩⟩
  have arm : ∀ {p : AV} {v : Value}, AR w (Av Γ.X β) β p v → AR w (Av Γ.X β') β' p v := by
    intro p v hp
    induction hp with
    | junk v => exact .junk v
    | gh i t v => exact .gh i t v
    | pure p v hp => exact .pure p v (hp.mono had)
    | loc k' i j bi hb =>
      by_cases e : k' = k
      · subst e; exact .locDead _ _ _ _ e1
      · exact .loc k' i j bi ((e2 k' e).trans hb)
    | locDead k' i j v hb => 
      by_cases e : k' = k
      · subst e; exact .locDead _ _ _ _ e1
      · exact .locDead k' i j v ((e2 k' e).trans hb)
    | lsl k' i n bi cap hb hv hn hc hi hm =>
      by_cases e : k' = k
      · subst e; exact .lslDead _ _ _ _ e1
      · exact .lsl k' i n bi cap ((e2 k' e).trans hb) hv hn hc hi hm
    | lslV k' i bi a hb hi =>
      by_cases e : k' = k
      · subst e; exact .lslDead _ _ _ _ e1
      · exact .lslV k' i bi a ((e2 k' e).trans hb) hi
    | lslDead k' i n v hb =>
      by_cases e : k' = k
      · subst e; exact .lslDead _ _ _ _ e1
      · exact .lslDead k' i n v ((e2 k' e).trans hb)
    | agg cs vs hl _ ih => exact .agg cs vs hl ih
    | fn f cs vs hl _ ih => exact .fn f cs vs hl ih
    | tup cs vs hl _ ih => exact .tup cs vs hl ih
  refine
  { size := h.size
    slots := fun t => arm (h.slots t)
    blks := fun j => ?_
    inj := fun j j' bj bj' hj hj' => h.inj j j' bj bj' (e3 j bj hj).2 (e3 j' bj' hj').2
    lt := fun j bj hj => h.lt j bj (e3 j bj hj).2
    notX := fun j bj hj => h.notX j bj (e3 j bj hj).2
    own := fun j bj hj => h.own j bj (e3 j bj hj).2
    fixd := fun j hj => (e2 j fun e => hfx (e ▸ hj)).trans (h.fixd j hj)
    used1 := h.used1
    used2 := fun j b hj => ?_
    keep := h.keep
    Xlt := h.Xlt }
  · rw [St.blk_kill]
    by_cases e : k = j
    · subst e; rw [if_pos rfl, e1]; trivial
    · rw [if_neg e, e2 j (Ne.symm e)]
      have hb := h.blks j
      cases hs : s.blk j with
      | none =>
        rw [hs] at hb
        cases hbj : β j with
        | none => trivial
        | some x => rw [hbj] at hb; exact hb.elim
      | some blk' =>
        rw [hs] at hb
        cases hbj : β j with
        | none => rw [hbj] at hb; exact hb.elim
        | some x =>
          rw [hbj] at hb
          cases blk' with
          | box cells =>
            obtain ⟨h1, cs, e', fz, h2, h3, h4, h5, h6⟩ := hb
            exact ⟨h1, cs, e', fz, h2, h3, h4, h5, fun j av hj => ⟨arm (h6 j av hj).1, (h6 j av hj).2⟩⟩
          | row sz rows =>
            refine BOK.mono (β := β) (β' := β') (blk := .row sz rows) had hb (fun y hy => ?_) fun _ => rfl
            simp only [Blk.keys, List.not_mem_nil] at hy
  · rw [St.blk_kill] at hj
    by_cases e : k = j
    · subst e; rw [if_pos rfl] at hj; cases hj
    · rw [if_neg e] at hj
      exact h.used2 j b hj
end

def purL : List AV → Option (List PV)
  | [] => some []
  | .pure p :: l => match purL l with
    | some ps => some (p :: ps)
    | none => none
  | _ :: _ => none
def dropPV : Nat → List PV → List PV
  | 0, l => l
  | _ + 1, [] => []
  | n + 1, _ :: l => dropPV n l
theorem dropPV_eq : ∀ (n : Nat) (l : List PV), dropPV n l = l.drop n
  | 0, l => rfl
  | n + 1, [] => rfl
  | n + 1, _ :: l => by simp [dropPV, dropPV_eq n l]
theorem purL_eq : ∀ {l : List AV} {ps : List PV}, purL l = some ps → l = ps.map .pure
  | [], ps, h => by simp only [purL, Option.some.injEq] at h; subst h; rfl
  | .pure p :: l, ps, h => by
    simp only [purL] at h
    split at h
    · rename_i qs hq
      cases h
      rw [purL_eq hq]; rfl
    · cases h
  | .junk :: _, _, h => by cases h
  | .loc _ _ _ :: _, _, h => by cases h
  | .lsl _ _ _ :: _, _, h => by cases h
  | .agg _ :: _, _, h => by cases h
  | .fn _ _ :: _, _, h => by cases h
  | .tup _ :: _, _, h => by cases h
  | .gh _ _ :: _, _, h => by cases h

mutual
def toPV (B : Nat → Option Blk) : AV → Option PV
  | .pure p => some p
  | .lsl k i n => match B k with
    | some (.row sz rows) => some (.sl sz ((rows.drop i).take n))
    | _ => none
  | .loc k i j => match i with
    | 0 => match B k with
      | some (.box cs) => match purL cs with
        | some ps => some (.ptr (dropPV j ps))
        | none => none
      | _ => none
    | _ + 1 => none
  | .agg cs => (toPVL B cs).map .agg
  | .tup cs => (toPVL B cs).map .tup
  | .fn f cs => (toPVL B cs).map (.fn f)
  | _ => none
def toPVL (B : Nat → Option Blk) : List AV → Option (List PV)
  | [] => some []
  | a :: l => (toPV B a).bind fun p => (toPVL B l).map (p :: ·)
end

theorem toPVL_some {B : Nat → Option Blk} : ∀ {l : List AV} {ps : List PV}, toPVL B l = some ps → ps.length = l.length ∧ ∀ (j : Nat) (p : PV), ps[j]? = some p → ∃ a : AV, l[j]? = some a ∧ toPV B a = some p
  | [], ps, h => by simp only [toPVL, Option.some.injEq] at h; subst h; simp
  | a :: l, ps, h => by
    simp only [toPVL, Option.bind_eq_some_iff, Option.map_eq_some_iff] at h
    obtain ⟨p, hp, qs, hq, rfl⟩ := h
    obtain ⟨h1, h2⟩ := toPVL_some hq
    refine ⟨by simp [h1], fun j q hj => ?_⟩
    cases j with
    | zero => simp only [List.getElem?_cons_zero, Option.some.injEq] at hj; subst hj; exact ⟨a, by simp, hp⟩
    | succ j => simpa using h2 j q (by simpa using hj)

theorem getD_cell {w : World} {b : Nat} {cs : Array Value} {e : TypeId} {fz : Nat × Nat} (h : w.heap[b]? = some (.cells cs e fz)) {j : Nat} (hj : j < cs.size) : w.cell? ⟨b, j, none⟩ = some (cs.getD j undef) := by
  rw [cell_of_row w b j cs e fz h]
  simp [hj]

/-- What a row of a local block reads as, once the block is no longer written. -/
theorem PR_of_row {w : World} {A A' : Nat → Prop} {β : BM} {bi : BI} {sz : Nat} {rows : List (List PV)} (hb : BOK w A β bi (.row sz rows)) (hv : bi.virt = false) (had : Ad w A w A') (hA : ¬ A' bi.b)
    {i n cap : Nat} (hn : n ≤ cap) (hi : i + n ≤ bi.len) (hm : cap ≤ maxLen) : PR w A' (.sl sz ((rows.drop i).take n)) (.slice (some ⟨bi.b, i * bi.sz, none⟩) n cap) := by
  obtain ⟨h1, h2, h2', h3, h4⟩ := hb
  rcases h4 with ⟨h4, _⟩ | ⟨_, cs, e, fz, h5, h6, h7, h8, h9⟩
  · rw [hv] at h4; cases h4
  · have hlen : ((rows.drop i).take n).length = n := by simp; omega
    have hlt : bi.b < w.heap.size := (Array.getElem?_eq_some_iff.1 h5).1
    have hget : ∀ (x : Nat) (row : List PV), ((rows.drop i).take n)[x]? = some row → rows[i + x]? = some row ∧ x < n := fun x row hx => by
      have hxn : x < n := by have := (List.getElem?_eq_some_iff.1 hx).1; omega
      rw [List.getElem?_take, if_pos hxn, List.getElem?_drop] at hx
      exact ⟨hx, hxn⟩
    have hcell : ∀ (x : Nat) (row : List PV) (y : Nat) (p : PV), ((rows.drop i).take n)[x]? = some row → row[y]? = some p → w.cell? ((⟨bi.b, i * bi.sz, none⟩ : Addr).add (x * sz + y)) = some (cs.getD ((i + x) * sz + y) undef) := fun x row y p hx hy => by
      obtain ⟨hx', hxn⟩ := hget x row hx
      have hr := h3 _ row hx'
      have hy' : y < sz := by have := (List.getElem?_eq_some_iff.1 hy).1; omega
      have hxl : i + x < rows.length := (List.getElem?_eq_some_iff.1 hx').1
      rw [Addr.add_lit, h1]
      have e1 : i * sz + (x * sz + y) = (i + x) * sz + y := by rw [Nat.add_mul]; omega
      rw [e1]
      refine getD_cell h5 ?_
      have : (i + x) * sz + sz ≤ rows.length * sz := by
        rw [← Nat.succ_mul]; exact Nat.mul_le_mul_right _ hxl
      omega
    have := PR.sl (w := w) (A := A') sz ((rows.drop i).take n) ⟨bi.b, i * bi.sz, none⟩ cap (fun x y => cs.getD ((i + x) * sz + y) undef) (by omega) hm h2 (fun _ => ⟨hlt, hA⟩)
      (fun x row hx => h3 _ row (hget x row hx).1) (fun x row y p hx hy => ⟨hcell x row y p hx hy, (h9 _ row y p (hget x row hx).1 hy).2⟩)
      (fun x row y p hx hy => ((h9 _ row y p (hget x row hx).1 hy).1).mono had)
    rw [hlen] at this
    exact this

/-- What a local box reads as, once it is no longer written. -/
theorem PR_of_box {w : World} {A A' : Nat → Prop} {β : BM} {bi : BI} {cs : List AV} {ps : List PV} (hb : BOK w A β bi (.box cs)) (had : Ad w A w A') (hA : ¬ A' bi.b) (hp : purL cs = some ps) (j : Nat) :
    PR w A' (.ptr (dropPV j ps)) (.pointer (some ⟨bi.b, 0 * bi.sz + j, none⟩)) := by
  obtain ⟨hv, cv, e, fz, h2, h3, h4, h5, h6⟩ := hb
  have hlt : bi.b < w.heap.size := (Array.getElem?_eq_some_iff.1 h2).1
  have hcs := purL_eq hp
  rw [dropPV_eq]
  refine .ptr _ _ (fun y => cv.getD (j + y) undef) (fun _ => ⟨hlt, hA⟩) (fun y p hy => ?_) (fun y p hy => ?_)
  · rw [List.getElem?_drop] at hy
    have hc : cs[j + y]? = some (.pure p) := by rw [hcs, List.getElem?_map, hy]; rfl
    obtain ⟨g1, g2⟩ := h6 _ _ hc
    have hy2 : j + y < cv.size := by have := (List.getElem?_eq_some_iff.1 hc).1; omega
    refine ⟨?_, g2⟩
    rw [Addr.add_lit]
    have e1 : 0 * bi.sz + j + y = j + y := by omega
    rw [e1]
    exact getD_cell h2 hy2
  · rw [List.getElem?_drop] at hy
    have hc : cs[j + y]? = some (.pure p) := by rw [hcs, List.getElem?_map, hy]; rfl
    obtain ⟨g1, g2⟩ := h6 _ _ hc
    cases g1 with
    | pure _ _ hq => exact hq.mono had

theorem AR.toPV {w : World} {A A' : Nat → Prop} {β : BM} {B : Nat → Option Blk} (had : Ad w A w A') (hB : ∀ k, BO w A β (β k) (B k))
    {p : AV} {v : Value} (hp : AR w A β p v) : (∀ k ∈ p.keys, ∀ bi, β k = some bi → bi.virt = false → ¬ A' bi.b) → ∀ {q : PV}, Avc.toPV B p = some q → PR w A' q v := by
  induction hp with
  | junk v => intro _ q h; simp [Avc.toPV] at h
  | gh i t v => intro _ q h; simp [Avc.toPV] at h
  | pure p v hp => intro _ q h; simp only [Avc.toPV, Option.some.injEq] at h; subst h; exact hp.mono had
  | loc k i j bi hb =>
    intro hA q h
    have hk := hB k
    rw [hb] at hk
    cases i with
    | succ i => simp only [Avc.toPV] at h; cases h
    | zero =>
    simp only [Avc.toPV] at h
    split at h
    · rename_i cs hs
      rw [hs] at hk
      split at h
      · rename_i ps hps
        cases h
        exact PR_of_box hk had (hA k (by simp [AV.keys]) bi hb hk.1) hps j
      · cases h
    · cases h
  | locDead k i j v hb =>
    intro hA q h
    have hk := hB k
    rw [hb] at hk
    cases i with
    | succ i => simp only [Avc.toPV] at h; cases h
    | zero =>
    simp only [Avc.toPV] at h
    split at h
    · rename_i cs hs
      rw [hs] at hk
      exact hk.elim
    · cases h
  | lsl k i n bi cap hb hv hn hc hi hm =>
    intro hA q h
    have hk := hB k
    rw [hb] at hk
    simp only [Avc.toPV] at h
    split at h
    · rename_i sz rows hs
      rw [hs] at hk
      cases h
      exact PR_of_row (β := β) hk hv had (hA k (by simp [AV.keys]) bi hb hv) hn hi hm
    · cases h
  | lslV k i bi a hb hi =>
    intro _ q h
    have hk := hB k
    rw [hb] at hk
    simp only [Avc.toPV] at h
    split at h
    · rename_i sz rows hs
      rw [hs] at hk
      cases h
      rw [List.take_zero]
      cases a with
      | none => exact .slnil sz
      | some a =>
        exact PR.sl sz [] a 0 (fun _ _ => undef) (Nat.le_refl _) (Nat.zero_le _) hk.2.1 (fun h => absurd h (Nat.lt_irrefl _)) (by simp) (by simp) (by simp)
    · cases h
  | lslDead k i n v hb =>
    intro _ q h
    have hk := hB k
    rw [hb] at hk
    simp only [Avc.toPV] at h
    split at h
    · rename_i sz rows hs
      rw [hs] at hk
      exact hk.elim
    · cases h
  | agg cs vs hl _ ih =>
    intro hA q h
    simp only [Avc.toPV, Option.map_eq_some_iff] at h
    obtain ⟨ps, hps, rfl⟩ := h
    obtain ⟨h1, h2⟩ := toPVL_some hps
    refine .agg ps vs (by omega) fun j p hj => ?_
    obtain ⟨a, ha, hap⟩ := h2 j p hj
    exact ih j a ha (fun k hk => hA k (by simp only [AV.keys]; exact AV.mem_keysL.2 ⟨a, List.mem_of_getElem? ha, hk⟩)) hap
  | fn f cs vs hl _ ih =>
    intro hA q h
    simp only [Avc.toPV, Option.map_eq_some_iff] at h
    obtain ⟨ps, hps, rfl⟩ := h
    obtain ⟨h1, h2⟩ := toPVL_some hps
    refine .fn f ps vs (by omega) fun j p hj => ?_
    obtain ⟨a, ha, hap⟩ := h2 j p hj
    exact ih j a ha (fun k hk => hA k (by simp only [AV.keys]; exact AV.mem_keysL.2 ⟨a, List.mem_of_getElem? ha, hk⟩)) hap
  | tup cs vs hl _ ih =>
    intro hA q h
    simp only [Avc.toPV, Option.map_eq_some_iff] at h
    obtain ⟨ps, hps, rfl⟩ := h
    obtain ⟨h1, h2⟩ := toPVL_some hps
    refine .tup ps vs (by omega) fun j p hj => ?_
    obtain ⟨a, ha, hap⟩ := h2 j p hj
    exact ih j a ha (fun k hk => hA k (by simp only [AV.keys]; exact AV.mem_keysL.2 ⟨a, List.mem_of_getElem? ha, hk⟩)) hap

theorem AR.toPV0 {w : World} {A : Nat → Prop} {β : BM} {p : AV} {v : Value} (hp : AR w A β p v) : ∀ {q : PV}, Avc.toPV (fun _ => none) p = some q → PR w A q v := by
  induction hp with
  | junk v => intro q h; simp [Avc.toPV] at h
  | gh i t v => intro q h; simp [Avc.toPV] at h
  | pure p v hp => intro q h; simp only [Avc.toPV, Option.some.injEq] at h; subst h; exact hp
  | loc k i j bi hb => intro q h; cases i <;> (simp only [Avc.toPV] at h; cases h)
  | locDead k i j v hb => intro q h; cases i <;> (simp only [Avc.toPV] at h; cases h)
  | lsl k i n bi cap hb hv hn hc hi hm => intro q h; simp [Avc.toPV] at h
  | lslV k i bi a hb hi => intro q h; simp [Avc.toPV] at h
  | lslDead k i n v hb => intro q h; simp [Avc.toPV] at h
  | agg cs vs hl _ ih =>
    intro q h
    simp only [Avc.toPV, Option.map_eq_some_iff] at h
    obtain ⟨ps, hps, rfl⟩ := h
    obtain ⟨h1, h2⟩ := toPVL_some hps
    exact .agg _ _ (by omega) fun j p hj => by obtain ⟨x, hx, hxp⟩ := h2 j p hj; exact ih j x hx hxp
  | fn f cs vs hl _ ih =>
    intro q h
    simp only [Avc.toPV, Option.map_eq_some_iff] at h
    obtain ⟨ps, hps, rfl⟩ := h
    obtain ⟨h1, h2⟩ := toPVL_some hps
    exact .fn _ _ _ (by omega) fun j p hj => by obtain ⟨x, hx, hxp⟩ := h2 j p hj; exact ih j x hx hxp
  | tup cs vs hl _ ih =>
    intro q h
    simp only [Avc.toPV, Option.map_eq_some_iff] at h
    obtain ⟨ps, hps, rfl⟩ := h
    obtain ⟨h1, h2⟩ := toPVL_some hps
    exact .tup _ _ (by omega) fun j p hj => by obtain ⟨x, hx, hxp⟩ := h2 j p hj; exact ih j x hx hxp

theorem Rl.ad_X {Γ : Ctx} {s : St} {tm : Array Value} {w : World} {β : BM} (_ : Rl Γ s tm w β) : Ad w (Av Γ.X β) w Γ.X := ⟨Nat.le_refl _, fun _ _ h => ⟨rfl, fun hx => h (.inl hx)⟩⟩

/-- What a value reads as once the function's own blocks are nobody's. -/
theorem Rl.out {Γ : Ctx} {s : St} {tm : Array Value} {w : World} {β : BM} (h : Rl Γ s tm w β) {p : AV} {v : Value} (hp : AR w (Av Γ.X β) β p v) {q : PV} (hq : toPV s.blk p = some q) : PR w Γ.X q v :=
  AR.toPV h.ad_X h.blks hp (fun k _ => h.notX k) hq
end Go.Avc
