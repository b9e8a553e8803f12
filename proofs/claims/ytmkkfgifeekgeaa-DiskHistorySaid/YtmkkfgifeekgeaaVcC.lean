/- What each operation does to an abstract state (first part: values, variables, addresses, loads and stores), and that it does so in the model. Conditions: none. -/
import Derived.Test.YtmkkfgifeekgeaaVcB
namespace Go.Avc
open Go.RowKit

inductive BAct where
  | set (k : Nat) (b : Blk)
  | new (k : Nat) (b : Blk)
  | kill (k : Nat)
  | frz (k : Nat)

abbrev Kont := AV → List BAct → Prop

mutual
def AV.fz (k : Nat) (c : Blk) : AV → AV
  | .lsl k' i n => match c with
    | .row sz rows => bif Nat.beq k' k then .pure (.sl sz ((rows.drop i).take n)) else .lsl k' i n
    | .box _ => .lsl k' i n
  | .loc k' i j => match c with
    | .row _ _ => .loc k' i j
    | .box cs => match i with
      | 0 => bif Nat.beq k' k then (match purL cs with
        | some ps => .pure (.ptr (dropPV j ps))
        | none => .loc k' 0 j) else .loc k' 0 j
      | i + 1 => .loc k' (i + 1) j
  | .agg cs => .agg (AV.fzL k c cs)
  | .fn f cs => .fn f (AV.fzL k c cs)
  | .tup cs => .tup (AV.fzL k c cs)
  | .junk => .junk
  | .pure p => .pure p
  | .gh i t => .gh i t
def AV.fzL (k : Nat) (c : Blk) : List AV → List AV
  | [] => []
  | a :: l => a.fz k c :: AV.fzL k c l
end

theorem AV.fzL_eq (k : Nat) (c : Blk) : ∀ l : List AV, AV.fzL k c l = l.map (AV.fz k c)
  | [] => rfl
  | a :: l => by simp only [AV.fzL, List.map_cons, AV.fzL_eq k c l]

def Blk.fz (k : Nat) (c : Blk) : Blk → Blk
  | .box cs => .box (AV.fzL k c cs)
  | .row sz rows => .row sz rows

def St.frzW (s : St) (k : Nat) (c : Blk) : St := { env := s.env.map fun x => (x.1, x.2.fz k c), blks := (k, none) :: s.blks.map fun x => (x.1, x.2.map (Blk.fz k c)), used := s.used }
def St.freeze (s : St) (k : Nat) : St :=
  match s.blk k with
  | some (.row sz rows) => s.frzW k (.row sz rows)
  | some (.box cs) => match purL cs with
    | some _ => s.frzW k (.box cs)
    | none => s
  | _ => s

/-- What may be frozen: a row; a box of plain values. -/
def Blk.fzOK : Blk → Prop
  | .row _ _ => True
  | .box cs => ∃ ps, purL cs = some ps
def FzOK (B : Nat → Option Blk) (k : Nat) : Prop := ∃ c, B k = some c ∧ c.fzOK
theorem FzOK.row {B : Nat → Option Blk} {k sz : Nat} {rows : List (List PV)} (h : B k = some (.row sz rows)) : FzOK B k := ⟨_, h, trivial⟩
theorem FzOK.box {B : Nat → Option Blk} {k : Nat} {cs : List AV} {ps : List PV} (h : B k = some (.box cs)) (hp : purL cs = some ps) : FzOK B k := ⟨_, h, ps, hp⟩

def St.act (s : St) : BAct → St
  | .set k b => s.set k b
  | .new k b => s.new k b
  | .kill k => s.kill k
  | .frz k => s.freeze k
def St.acts (s : St) (l : List BAct) : St := l.foldl St.act s

theorem lk_map {α β : Type} (f : α → β) : ∀ (l : List (Nat × α)) (t : Nat), lk (l.map fun x => (x.1, f x.2)) t = (lk l t).map f
  | [], t => rfl
  | (d, v) :: l, t => by
    rw [List.map_cons, lk_cons, lk_cons, lk_map f l t]
    split <;> rfl

mutual
theorem AV.keys_fz (k : Nat) (c : Blk) : ∀ (v : AV) (x : Nat), x ∈ (v.fz k c).keys → x ∈ v.keys
  | .junk, x, h => h
  | .gh _ _, x, h => h
  | .pure p, x, h => h
  | .loc k' i j, x, h => by
    unfold AV.fz at h
    cases c with
    | row sz rows => exact h
    | box cs =>
      cases i with
      | succ i => exact h
      | zero =>
        simp only [beq_eq_decide] at h
        by_cases e : k' = k
        · simp only [e, decide_true, cond_true] at h
          split at h
          · simp [AV.keys] at h
          · simpa [AV.keys, e] using h
        · simpa [e] using h
  | .lsl k' i n, x, h => by
    unfold AV.fz at h
    cases c with
    | row sz rows =>
      simp only [beq_eq_decide] at h
      by_cases e : k' = k
      · simp [e, AV.keys] at h
      · simpa [e] using h
    | box cs => exact h
  | .agg cs, x, h => by
    simp only [AV.fz, AV.keys] at h ⊢
    exact AV.keysL_fz k c cs x h
  | .fn f cs, x, h => by
    simp only [AV.fz, AV.keys] at h ⊢
    exact AV.keysL_fz k c cs x h
  | .tup cs, x, h => by
    simp only [AV.fz, AV.keys] at h ⊢
    exact AV.keysL_fz k c cs x h
theorem AV.keysL_fz (k : Nat) (c : Blk) : ∀ (l : List AV) (x : Nat), x ∈ AV.keysL (AV.fzL k c l) → x ∈ AV.keysL l
  | [], x, h => h
  | a :: l, x, h => by
    simp only [AV.fzL, AV.keysL, List.mem_append] at h ⊢
    rcases h with h | h
    · exact .inl (AV.keys_fz k c a x h)
    · exact .inr (AV.keysL_fz k c l x h)
end

theorem oneCell_slice (a : Option Addr) (n c : Nat) : (Value.slice a n c).oneCell' = true := rfl

theorem Rl.freezeW {Γ : Ctx} {s : St} {tm : Array Value} {w : World} {β : BM} (h : Rl Γ s tm w β) {k : Nat} (hfx : k ∉ Γ.fx) {c : Blk} (hs : s.blk k = some c) (hc : c.fzOK) :
    Rl Γ (s.frzW k c) tm w (fun j => if j = k then none else β j) ∧ ∀ {p : AV} {v : Value}, AR w (Av Γ.X β) β p v → AR w (Av Γ.X (fun j => if j = k then none else β j)) (fun j => if j = k then none else β j) (p.fz k c) v := by
  unfold St.frzW
  have hbk := h.blks k
  rw [hs] at hbk
  cases hβk : β k with
  | none => rw [hβk] at hbk; exact hbk.elim
  | some bi =>
  rw [hβk] at hbk
  generalize hβ' : (fun j => if j = k then none else β j) = β'
  have e1 : β' k = none := by rw [← hβ']; simp
  have e2 : ∀ j, j ≠ k → β' j = β j := fun j hj => by rw [← hβ']; simp [hj]
  have e3 : ∀ j bj, β' j = some bj → j ≠ k ∧ β j = some bj := fun j bj hj => by
    by_cases e : j = k
    · subst e; rw [e1] at hj; cases hj
    · exact ⟨e, by rw [← e2 j e]; exact hj⟩
  have had : Ad w (Av Γ.X β) w (Av Γ.X β') := ⟨Nat.le_refl _, fun b _ hA => ⟨rfl, fun hA' => hA (by
    rcases hA' with hx | ⟨j, bj, hj, hv, hb⟩
    · exact .inl hx
    · exact .inr ⟨j, bj, (e3 j bj hj).2, hv, hb⟩)⟩⟩
  have hnA : bi.virt = false → ¬ Av Γ.X β' bi.b := by
    rintro hv (hx | ⟨j, bj, hj, hv', hb⟩)
    · exact h.notX k bi hβk hv hx
    · obtain ⟨hne, hj'⟩ := e3 j bj hj
      exact hne (h.inj j k bj bi hj' hβk hv' hv hb)
  have arm : ∀ {p : AV} {v : Value}, AR w (Av Γ.X β) β p v → AR w (Av Γ.X β') β' (p.fz k c) v := by
    intro p v hp
    induction hp with
    | junk v => exact .junk v
    | gh i t v => exact .gh i t v
    | pure p v hp => exact .pure p v (hp.mono had)
    | loc k' i j bi' hb =>
      have dead : AR w (Av Γ.X β') β' (.loc k' i j) (.pointer (some ⟨bi'.b, i * bi'.sz + j, none⟩)) := by
        by_cases e : k' = k
        · subst e; exact .locDead _ _ _ _ e1
        · exact .loc k' i j bi' ((e2 k' e).trans hb)
      unfold AV.fz
      cases c with
      | row sz rows => exact dead
      | box cs =>
        cases i with
        | succ i => exact dead
        | zero =>
          simp only [beq_eq_decide]
          by_cases e : k' = k
          · subst e
            rw [hβk] at hb; cases hb
            obtain ⟨ps, hps⟩ := hc
            simp only [decide_true, cond_true, hps]
            exact .pure _ _ (PR_of_box hbk had (hnA hbk.1) hps j)
          · simp only [e, decide_false, cond_false]
            exact dead
    | locDead k' i j v hb =>
      have dead : AR w (Av Γ.X β') β' (.loc k' i j) v := by
        by_cases e : k' = k
        · subst e; exact .locDead _ _ _ _ e1
        · exact .locDead k' i j v ((e2 k' e).trans hb)
      have e : ¬ k' = k := fun e => by subst e; rw [hβk] at hb; cases hb
      unfold AV.fz
      cases c with
      | row sz rows => exact dead
      | box cs =>
        cases i with
        | succ i => exact dead
        | zero =>
          simp only [beq_eq_decide, e, decide_false, cond_false]
          exact dead
    | lsl k' i n bi' cap hb hv hn hc' hi hm =>
      unfold AV.fz
      cases c with
      | box cs =>
        by_cases e : k' = k
        · subst e; exact .lslDead _ _ _ _ e1
        · exact .lsl k' i n bi' cap ((e2 k' e).trans hb) hv hn hc' hi hm
      | row sz rows =>
      simp only [beq_eq_decide]
      by_cases e : k' = k
      · subst e
        rw [hβk] at hb; cases hb
        simp only [decide_true, cond_true]
        exact .pure _ _ (PR_of_row (β := β) hbk hv had (hnA hv) hn hi hm)
      · simp only [e, decide_false, cond_false]
        exact .lsl k' i n bi' cap ((e2 k' e).trans hb) hv hn hc' hi hm
    | lslV k' i bi' a hb hi =>
      unfold AV.fz
      cases c with
      | box cs =>
        by_cases e : k' = k
        · subst e; exact .lslDead _ _ _ _ e1
        · exact .lslV k' i bi' a ((e2 k' e).trans hb) hi
      | row sz rows =>
      simp only [beq_eq_decide]
      by_cases e : k' = k
      · subst e
        rw [hβk] at hb; cases hb
        simp only [decide_true, cond_true, List.take_zero]
        refine .pure _ _ ?_
        cases a with
        | none => exact .slnil sz
        | some a => exact PR.sl sz [] a 0 (fun _ _ => undef) (Nat.le_refl _) (Nat.zero_le _) hbk.2.1 (fun h => absurd h (Nat.lt_irrefl _)) (by simp) (by simp) (by simp)
      · simp only [e, decide_false, cond_false]
        exact .lslV k' i bi' a ((e2 k' e).trans hb) hi
    | lslDead k' i n v hb =>
      have e : ¬ k' = k := fun e => by subst e; rw [hβk] at hb; cases hb
      unfold AV.fz
      cases c with
      | box cs => exact .lslDead k' i n v ((e2 k' e).trans hb)
      | row sz rows =>
      simp only [beq_eq_decide, e, decide_false, cond_false]
      exact .lslDead k' i n v ((e2 k' e).trans hb)
    | agg cs vs hl _ ih =>
      unfold AV.fz
      rw [AV.fzL_eq]
      refine .agg _ vs (by simpa using hl) fun j p hj => ?_
      rw [List.getElem?_map, Option.map_eq_some_iff] at hj
      obtain ⟨q, hq, rfl⟩ := hj
      exact ih j q hq
    | fn f cs vs hl _ ih =>
      unfold AV.fz
      rw [AV.fzL_eq]
      refine .fn f _ vs (by simpa using hl) fun j p hj => ?_
      rw [List.getElem?_map, Option.map_eq_some_iff] at hj
      obtain ⟨q, hq, rfl⟩ := hj
      exact ih j q hq
    | tup cs vs hl _ ih =>
      unfold AV.fz
      rw [AV.fzL_eq]
      refine .tup _ vs (by simpa using hl) fun j p hj => ?_
      rw [List.getElem?_map, Option.map_eq_some_iff] at hj
      obtain ⟨q, hq, rfl⟩ := hj
      exact ih j q hq
  have hget : ∀ t, St.get { env := s.env.map fun x => (x.1, x.2.fz k c), blks := (k, none) :: s.blks.map fun x => (x.1, x.2.map (Blk.fz k c)), used := s.used } t = (s.get t).fz k c := by
    intro t
    simp only [St.get, lk_map (AV.fz k c)]
    cases lk s.env t <;> rfl
  have hblk : ∀ j, St.blk { env := s.env.map fun x => (x.1, x.2.fz k c), blks := (k, none) :: s.blks.map fun x => (x.1, x.2.map (Blk.fz k c)), used := s.used } j = if k = j then none else (s.blk j).map (Blk.fz k c) := by
    intro j
    simp only [St.blk, lk_cons]
    by_cases e : k = j
    · simp [e]
    · simp only [e, if_false]
      rw [lk_map (Option.map (Blk.fz k c))]
      cases lk s.blks j with
      | none => rfl
      | some x => cases x <;> rfl
  refine ⟨?_, fun hp => arm hp⟩
  · refine
    { size := h.size
      slots := fun t => by rw [hget]; exact arm (h.slots t)
      blks := fun j => ?_
      inj := fun j j' bj bj' hj hj' => h.inj j j' bj bj' (e3 j bj hj).2 (e3 j' bj' hj').2
      lt := fun j bj hj => h.lt j bj (e3 j bj hj).2
      notX := fun j bj hj => h.notX j bj (e3 j bj hj).2
      own := fun j bj hj => h.own j bj (e3 j bj hj).2
      fixd := fun j hj => (e2 j fun e => hfx (e ▸ hj)).trans (h.fixd j hj)
      used1 := fun t x hx => by rw [hget] at hx; exact h.used1 t x (AV.keys_fz _ _ _ x hx)
      used2 := fun j b hj => ?_
      keep := h.keep
      Xlt := h.Xlt }
    · rw [hblk]
      by_cases e : k = j
      · subst e; rw [if_pos rfl, e1]; trivial
      · rw [if_neg e, e2 j (Ne.symm e)]
        have hb := h.blks j
        cases hs' : s.blk j with
        | none =>
          rw [hs'] at hb
          cases hbj : β j with
          | none => trivial
          | some x => rw [hbj] at hb; exact hb.elim
        | some blk' =>
          rw [hs'] at hb
          cases hbj : β j with
          | none => rw [hbj] at hb; exact hb.elim
          | some x =>
            rw [hbj] at hb
            cases blk' with
            | box cells =>
              obtain ⟨h1, cs, e', fz, h2, h3, h4, h5, h6⟩ := hb
              refine ⟨h1, cs, e', fz, h2, h3, ?_, h5, fun j av hj => ?_⟩
              · rw [h4, AV.fzL_eq]; simp
              · rw [AV.fzL_eq, List.getElem?_map, Option.map_eq_some_iff] at hj
                obtain ⟨q, hq, rfl⟩ := hj
                exact ⟨arm (h6 j q hq).1, (h6 j q hq).2⟩
            | row sz' rows' =>
              refine BOK.mono (β := β) (β' := β') (blk := .row sz' rows') had hb (fun y hy => ?_) fun _ => rfl
              simp only [Blk.keys, List.not_mem_nil] at hy
    · rw [hblk] at hj
      by_cases e : k = j
      · subst e; rw [if_pos rfl] at hj; cases hj
      · rw [if_neg e, Option.map_eq_some_iff] at hj
        obtain ⟨b', hb', rfl⟩ := hj
        refine ⟨(h.used2 j b' hb').1, fun x hx => (h.used2 j b' hb').2 x ?_⟩
        cases b' with
        | box cells => exact AV.keysL_fz k c cells x hx
        | row _ _ => exact hx

theorem freeze_ok {s : St} {k : Nat} {c : Blk} (hs : s.blk k = some c) (hc : c.fzOK) : s.freeze k = s.frzW k c := by
  unfold St.freeze
  rw [hs]
  cases c with
  | row sz rows => rfl
  | box cs => obtain ⟨ps, hps⟩ := hc; simp only [hps]
theorem freeze_other {s : St} {k : Nat} (hs : ¬ FzOK s.blk k) : s.freeze k = s := by
  unfold St.freeze
  split
  · rename_i sz rows h
    exact absurd (FzOK.row h) hs
  · rename_i cs h
    split
    · rename_i ps hps
      exact absurd (FzOK.box h hps) hs
    · rfl
  · rfl

theorem Rl.freeze {Γ : Ctx} {s : St} {tm : Array Value} {w : World} {β : BM} (h : Rl Γ s tm w β) {k : Nat} (hfx : k ∉ Γ.fx) :
    ∃ β', Rl Γ (s.freeze k) tm w β' ∧ (∀ j, j ≠ k → β' j = β j) ∧ (∀ j bj, β' j = some bj → β j = some bj) ∧ (FzOK s.blk k → β' k = none) := by
  by_cases hs : FzOK s.blk k
  · obtain ⟨c, hs, hc⟩ := hs
    rw [freeze_ok hs hc]
    refine ⟨_, (h.freezeW hfx hs hc).1, fun j hj => by simp [hj], fun j bj hj => ?_, fun _ => by simp⟩
    by_cases e : j = k
    · simp [e] at hj
    · simpa [e] using hj
  · rw [freeze_other hs]
    exact ⟨β, h, fun _ _ => rfl, fun _ _ h => h, fun h => absurd h hs⟩

/-- A symbolic test: both ways. -/
def bsel (t : Bool) (A B : Prop) : Prop := match t with
  | true => A
  | false => B
theorem bsel_intro {t : Bool} {A B : Prop} (h1 : t = true → A) (h2 : t = false → B) : bsel t A B := by
  cases t
  · exact h2 rfl
  · exact h1 rfl
theorem bsel_elim {t : Bool} {A B : Prop} (h : bsel t A B) : (t = true ∧ A) ∨ (t = false ∧ B) := by
  cases t
  · exact .inr ⟨rfl, h⟩
  · exact .inl ⟨rfl, h⟩

/-- An operation that yields a value comes to what the continuation takes. -/
def Out (Γ : Ctx) (s : St) (tm : Array Value) (K : Kont) (r : Result Value) : Prop :=
  ∃ v acts u w' β', K v acts ∧ r = .ok u w' ∧ Rl Γ (s.acts acts) tm w' β' ∧ AR w' (Av Γ.X β') β' v u ∧ ∀ k ∈ v.keys, k ∈ (s.acts acts).used

theorem Out.same {Γ : Ctx} {s : St} {tm : Array Value} {w : World} {β : BM} (h : Rl Γ s tm w β) {K : Kont} {v : AV} {u : Value} (hK : K v []) {r : Result Value} (hr : r = .ok u w)
    (hv : AR w (Av Γ.X β) β v u) (hk : ∀ k ∈ v.keys, k ∈ s.used) : Out Γ s tm K r := ⟨v, [], u, w, β, hK, hr, h, hv, hk⟩

/-- The same, and neither the world nor the blocks have turned. -/
def OutS (Γ : Ctx) (s : St) (w : World) (β : BM) (K : Kont) (r : Result Value) : Prop :=
  ∃ v u, K v [] ∧ r = .ok u w ∧ AR w (Av Γ.X β) β v u ∧ ∀ k ∈ v.keys, k ∈ s.used
theorem OutS.same {Γ : Ctx} {s : St} {w : World} {β : BM} {K : Kont} {v : AV} {u : Value} (hK : K v []) {r : Result Value} (hr : r = .ok u w)
    (hv : AR w (Av Γ.X β) β v u) (hk : ∀ k ∈ v.keys, k ∈ s.used) : OutS Γ s w β K r := ⟨v, u, hK, hr, hv, hk⟩
theorem OutS.out {Γ : Ctx} {s : St} {tm : Array Value} {w : World} {β : BM} {K : Kont} {r : Result Value} (h : Rl Γ s tm w β) (ho : OutS Γ s w β K r) : Out Γ s tm K r := by
  obtain ⟨v, u, hK, hr, hv, hk⟩ := ho
  exact Out.same h hK hr hv hk

theorem Rl.live {Γ : Ctx} {s : St} {tm : Array Value} {w : World} {β : BM} (h : Rl Γ s tm w β) {k : Nat} {blk : Blk} (hs : s.blk k = some blk) : ∃ bi, β k = some bi ∧ BOK w (Av Γ.X β) β bi blk := by
  have hb := h.blks k
  rw [hs] at hb
  cases hβ : β k with
  | none => rw [hβ] at hb; exact hb.elim
  | some bi => rw [hβ] at hb; exact ⟨bi, rfl, hb⟩

theorem AR.loc_inv {w : World} {A : Nat → Prop} {β : BM} {k i j : Nat} {v : Value} {bi : BI} (h : AR w A β (.loc k i j) v) (hb : β k = some bi) : v = .pointer (some ⟨bi.b, i * bi.sz + j, none⟩) := by
  cases h with
  | loc _ _ _ bi' h' => rw [hb] at h'; cases h'; rfl
  | locDead _ _ _ _ h' => rw [hb] at h'; cases h'

def aggOf (P : Program) (t : TypeId) : Option Bool := match P.underlying t with
  | some (.struct _) => some true
  | some (.array _ _) => some true
  | some _ => some false
  | none => none
def szOf (P : Program) (t : TypeId) : Option Nat := (P.info? t).map (·.size)

def takeN {α : Type} : Nat → List α → Option (List α)
  | 0, _ => some []
  | _ + 1, [] => none
  | n + 1, a :: l => (takeN n l).map (a :: ·)
def dropN {α : Type} : Nat → List α → List α
  | 0, l => l
  | _ + 1, [] => []
  | n + 1, _ :: l => dropN n l
def nth {α : Type} : List α → Nat → Option α
  | [], _ => none
  | a :: _, 0 => some a
  | _ :: l, n + 1 => nth l n
theorem dropN_eq {α : Type} : ∀ (n : Nat) (l : List α), dropN n l = l.drop n
  | 0, l => rfl
  | n + 1, [] => rfl
  | n + 1, _ :: l => by simp [dropN, dropN_eq n l]
theorem nth_eq {α : Type} : ∀ (l : List α) (n : Nat), nth l n = l[n]?
  | [], n => by simp [nth]
  | a :: _, 0 => rfl
  | _ :: l, n + 1 => by simp [nth, nth_eq l n]
theorem takeN_eq {α : Type} : ∀ (n : Nat) (l r : List α), takeN n l = some r → n ≤ l.length ∧ r = l.take n
  | 0, l, r, h => by simp [takeN] at h; simp [h]
  | n + 1, [], r, h => by simp [takeN] at h
  | n + 1, a :: l, r, h => by
    simp only [takeN, Option.map_eq_some_iff] at h
    obtain ⟨q, hq, rfl⟩ := h
    obtain ⟨h1, h2⟩ := takeN_eq n l q hq
    exact ⟨by simp; omega, by simp [h2]⟩

/-- The value's head is reckoned. -/
def force (v : AV) (K : Kont) : Prop := match v with
  | .junk => K .junk []
  | .gh i t => K (.gh i t) []
  | .pure p => K (.pure p) []
  | .loc k i j => K (.loc k i j) []
  | .lsl k i n => K (.lsl k i n) []
  | .agg cs => K (.agg cs) []
  | .fn f cs => K (.fn f cs) []
  | .tup cs => K (.tup cs) []
theorem force_eq (v : AV) (K : Kont) : force v K = K v [] := by cases v <;> rfl
/-- The heads of cells are reckoned. -/
def forceC : List AV → (List AV → Prop) → Prop
  | [], C => C []
  | v :: l, C => force v fun v' _ => forceC l fun l' => C (v' :: l')
theorem forceC_eq : ∀ (l : List AV) (C : List AV → Prop), forceC l C = C l
  | [], _ => rfl
  | v :: l, C => by simp only [forceC, force_eq]; rw [forceC_eq l]

/-- A cell or cells out of a list of abstract cells. -/
def getCells (P : Program) (t : TypeId) (cells : List AV) (j : Nat) (K : Kont) : Prop :=
  match aggOf P t with
  | some true => match szOf P t with
    | some n => match takeN n (dropN j cells) with
      | some cs => forceC cs fun cs => K (.agg cs) []
      | none => False
    | none => False
  | some false => match nth cells j with
    | some v => K v []
    | none => False
  | none => False

def pures (l : List PV) : List AV := l.map .pure

def opLoad (P : Program) (t : TypeId) (x : AV) (blk : Nat → Option Blk) (K : Kont) : Prop :=
  match x with
  | .loc k i j => match blk k with
    | some (.box cells) => match i with
      | 0 => getCells P t cells j K
      | _ + 1 => False
    | some (.row sz rows) => match aggOf P t with
      | some true => (∃ row, rows[i]? = some row ∧ szOf P t = some sz ∧ j = 0 ∧ K (.agg (pures row)) []) ∨ (i = 0 ∧ j = 0 ∧ szOf P t = some (rows.length * sz) ∧ K (.agg (pures rows.flatten)) [])
      | some false => ∃ row p, rows[i]? = some row ∧ row[j]? = some p ∧ K (.pure p) []
      | none => False
    | none => False
  | .pure (.ptr cs) => getCells P t (pures cs) 0 K
  | _ => False

def PV.one : PV → Bool
  | .val v => v.oneCell'
  | .sl _ _ => true
  | .ptr _ => true
  | .fn _ _ => true
  | _ => false
def AV.one (blk : Nat → Option Blk) : AV → Bool
  | .pure p => p.one
  | .loc k _ _ => (blk k).isSome
  | .lsl k _ _ => (blk k).isSome
  | .fn _ _ => true
  | _ => false
def allOne (blk : Nat → Option Blk) : List AV → Bool
  | [] => true
  | a :: l => bif a.one blk then allOne blk l else false
def cellsOf : AV → List AV
  | .agg cs => cs
  | .pure (.agg cs) => pures cs
  | v => [v]

/-- Arrays whose elements are of one plain cell lie as rows of one cell. -/
def arrOf (P : Program) (t : TypeId) : Bool := match P.underlying t with
  | some (.array _ e) => match P.underlying e with
    | some (.int _) => true
    | some .bool => true
    | some .string => true
    | some (.slice _) => true
    | _ => false
  | _ => false
def singles (l : List PV) : List (List PV) := l.map fun p => [p]

def freshIn (d : Nat) : List Nat → Bool
  | [] => true
  | k :: l => bif Nat.beq d k then false else freshIn d l

def opBox (P : Program) (t : TypeId) (x : AV) (d : Nat) (blk : Nat → Option Blk) (K : Kont) : Prop :=
  match allOne blk (cellsOf x) with
  | false => False
  | true => match arrOf P t with
    | false => forceC (cellsOf x) fun cs => K (.loc d 0 0) [.new d (.box cs)]
    | true => match toPVL (fun _ => none) (cellsOf x) with
      | some ps => K (.loc d 0 0) [.new d (.row 1 (singles ps))]
      | none => False

def opAlloc (P : Program) (t : TypeId) (d : Nat) (K : Kont) : Prop :=
  match P.info? t with
  | some i => match i.zero with
    | some z => match arrOf P t with
      | false => match allOne (fun _ => none) (z.cells.toList.map fun v => .pure (.val v)) with
        | true => forceC (z.cells.toList.map fun v => .pure (.val v)) fun cs => K (.loc d 0 0) [.new d (.box cs)]
        | false => False
      | true => match allOne (fun _ => none) (z.cells.toList.map fun v => .pure (.val v)) with
        | true => K (.loc d 0 0) [.new d (.row 1 (singles (z.cells.toList.map .val)))]
        | false => False
    | none => False
  | none => False

def overlay {α : Type} : List α → List α → Option (List α)
  | l, [] => some l
  | [], _ :: _ => none
  | _ :: l, v :: vs => (overlay l vs).map (v :: ·)
def splice {α : Type} : Nat → List α → List α → Option (List α)
  | 0, l, vs => overlay l vs
  | _ + 1, [], _ => none
  | n + 1, a :: l, vs => (splice n l vs).map (a :: ·)

def frzs (l : List Nat) : List BAct := l.map .frz
def kills (l : List Nat) : List BAct := l.map .kill
/-- Blocks whose contents are handed on: frozen; or, in a region whose order is open, given up. -/
def fk (md : Bool) (l : List Nat) : List BAct := match md with
  | true => kills l
  | false => frzs l

def disj : List Nat → List Nat → Bool
  | [], _ => true
  | k :: l, m => bif freshIn k m then disj l m else false

def opStore (md : Bool) (P : Program) (t : TypeId) (x v : AV) (blk : Nat → Option Blk) (fx : List Nat) (K : Kont) : Prop :=
  match x with
  | .loc k i j => match allOne blk (cellsOf v) with
    | false => False
    | true => szOf P t = some (cellsOf v).length ∧ match blk k with
      | some (.box cells) => match i with
        | 0 => match splice j cells (cellsOf v) with
          | some cells' => forceC cells' fun cs => K .junk [.set k (.box cs)]
          | none => False
        | _ + 1 => False
      | some (.row sz rows) => match toPVL blk (cellsOf v) with
        | some ps => (ps.length = sz ∧ j = 0 ∧ i < rows.length ∧ freshIn k (AV.keysL (cellsOf v)) = true ∧ disj (AV.keysL (cellsOf v)) fx = true ∧ K .junk (fk md (AV.keysL (cellsOf v)) ++ [.set k (.row sz (rows.set i ps))])) ∨
            (sz = 1 ∧ i = 0 ∧ j = 0 ∧ ps.length = rows.length ∧ freshIn k (AV.keysL (cellsOf v)) = true ∧ disj (AV.keysL (cellsOf v)) fx = true ∧ K .junk (fk md (AV.keysL (cellsOf v)) ++ [.set k (.row sz (singles ps))]))
        | none => False
      | none => False
  | _ => False
end Go.Avc
