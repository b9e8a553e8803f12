/- Loops, weakening of states, functions. Conditions: none. -/
import Derived.Test.YtmkkfgifeekgeaaVcJ
namespace Go.Avc
open Go.RowKit

def SubA (B : Nat → Option Blk) (v v' : AV) : Prop :=
  v = v' ∨ v' = .junk ∨ (∃ p q, v = .pure p ∧ v' = .pure q ∧ PSub p q) ∨ (∃ k, v = .pure (.val (.slice none 0 0)) ∧ v' = .lsl k 0 0 ∧ (B k).isSome = true)
def SubAL (B : Nat → Option Blk) : List AV → List AV → Prop
  | [], [] => True
  | a :: l, b :: m => SubA B a b ∧ SubAL B l m
  | _, _ => False
theorem SubAL.get {B : Nat → Option Blk} : ∀ {l m : List AV}, SubAL B l m → l.length = m.length ∧ ∀ (j : Nat) (q : AV), m[j]? = some q → ∃ p, l[j]? = some p ∧ SubA B p q
  | [], [], _ => ⟨rfl, fun j q h => by simp at h⟩
  | p :: l, q :: m, h => by
    obtain ⟨h1, h2⟩ := h
    obtain ⟨h3, h4⟩ := SubAL.get h2
    refine ⟨by simp [h3], fun j r hj => ?_⟩
    cases j with
    | zero => simp at hj; subst hj; exact ⟨p, by simp, h1⟩
    | succ j => simpa using h4 j r (by simpa using hj)
  | [], _ :: _, h => h.elim
  | _ :: _, [], h => h.elim
def BSub (B : Nat → Option Blk) (b : Option Blk) : Blk → Prop
  | .row sz rows => b = some (.row sz rows)
  | .box cells' => ∃ cells, b = some (.box cells) ∧ SubAL B cells cells'

def checkE (s : St) (B : Nat → Option Blk) : List (Nat × AV) → Prop
  | [] => True
  | (t, v) :: l => SubA B (s.get t) v ∧ checkE s B l
def checkB (s : St) (B : Nat → Option Blk) : List (Nat × Option Blk) → Prop
  | [] => True
  | (k, some b) :: l => BSub B (s.blk k) b ∧ checkB s B l
  | (_, none) :: l => checkB s B l
def keysE : List (Nat × AV) → List Nat
  | [] => []
  | (_, v) :: l => v.keys ++ keysE l
def keysB : List (Nat × Option Blk) → List Nat
  | [] => []
  | (k, some b) :: l => k :: b.keys ++ keysB l
  | (_, none) :: l => keysB l
def subB : List Nat → List Nat → Bool
  | [], _ => true
  | k :: l, m => bif freshIn k m then false else subB l m
def liveAll (s : St) : List Nat → Bool
  | [] => true
  | k :: l => bif (s.blk k).isSome then liveAll s l else false

def Le (Γ : Ctx) (s s' : St) : Prop := ∀ a w, R Γ s a w → R Γ s' a w
theorem Le.refl (Γ : Ctx) (s : St) : Le Γ s s := fun _ _ h => h
theorem Le.trans {Γ : Ctx} {a b c : St} (h : Le Γ a b) (k : Le Γ b c) : Le Γ a c := fun x w hr => k x w (h x w hr)

theorem freshIn_not {d : Nat} : ∀ {l : List Nat}, freshIn d l = false → d ∈ l
  | [], h => by cases h
  | k :: l, h => by
    simp only [freshIn, beq_eq_decide] at h
    by_cases e : d = k
    · subst e; exact List.mem_cons_self
    · simp only [e, decide_false, cond_false] at h
      exact List.mem_cons_of_mem _ (freshIn_not h)
theorem subB_spec : ∀ {l m : List Nat}, subB l m = true → ∀ k ∈ l, k ∈ m
  | [], _, _, k, hk => by cases hk
  | a :: l, m, h, k, hk => by
    simp only [subB] at h
    cases ha : freshIn a m with
    | true => rw [ha] at h; cases h
    | false =>
      rw [ha] at h
      rcases List.mem_cons.1 hk with rfl | hk
      · exact freshIn_not ha
      · exact subB_spec (by simpa using h) k hk
theorem liveAll_spec {s : St} : ∀ {l : List Nat}, liveAll s l = true → ∀ k ∈ l, (s.blk k).isSome = true
  | [], _, k, hk => by cases hk
  | a :: l, h, k, hk => by
    simp only [liveAll] at h
    cases ha : (s.blk a).isSome with
    | false => rw [ha] at h; cases h
    | true =>
      rw [ha] at h
      rcases List.mem_cons.1 hk with rfl | hk
      · exact ha
      · exact liveAll_spec (by simpa using h) k hk

theorem checkE_get {s : St} {B : Nat → Option Blk} : ∀ {l : List (Nat × AV)}, checkE s B l → ∀ t v, lk l t = some v → SubA B (s.get t) v ∧ ∀ k ∈ v.keys, k ∈ keysE l
  | [], _, t, v, h => by cases h
  | (d, x) :: l, hc, t, v, h => by
    rw [lk_cons] at h
    split at h
    · rename_i e; subst e; cases h
      exact ⟨hc.1, fun k hk => by simp only [keysE]; exact List.mem_append_left _ hk⟩
    · obtain ⟨h1, h2⟩ := checkE_get hc.2 t v h
      exact ⟨h1, fun k hk => by simp only [keysE]; exact List.mem_append_right _ (h2 k hk)⟩
theorem checkB_get {s : St} {B : Nat → Option Blk} : ∀ {l : List (Nat × Option Blk)}, checkB s B l → ∀ k b, lk l k = some (some b) → BSub B (s.blk k) b ∧ k ∈ keysB l ∧ ∀ k' ∈ b.keys, k' ∈ keysB l
  | [], _, k, b, h => by cases h
  | (d, none) :: l, hc, k, b, h => by
    rw [lk_cons] at h
    split at h
    · cases h
    · exact checkB_get (l := l) hc k b h
  | (d, some x) :: l, hc, k, b, h => by
    rw [lk_cons] at h
    split at h
    · rename_i e; subst e; cases h
      exact ⟨hc.1, by simp [keysB], fun k' hk' => by simp only [keysB, List.cons_append]; exact List.mem_cons_of_mem _ (List.mem_append_left _ hk')⟩
    · obtain ⟨h1, h2, h3⟩ := checkB_get hc.2 k b h
      exact ⟨h1, by simp only [keysB, List.cons_append]; exact List.mem_cons_of_mem _ (List.mem_append_right _ h2), fun k' hk' => by simp only [keysB, List.cons_append]; exact List.mem_cons_of_mem _ (List.mem_append_right _ (h3 k' hk'))⟩

/-- A state is forgotten in part. -/
theorem Le.of {Γ : Ctx} {s s' : St} (hE : checkE s s'.blk s'.env) (hB : checkB s s'.blk s'.blks) (hu1 : subB (keysE s'.env) s'.used = true) (hu2 : subB (keysB s'.blks) s'.used = true) (hfx : liveAll s' Γ.fx = true) : Le Γ s s' := by
  rintro a w ⟨X, β, h, g⟩
  refine ⟨X, fun k => if (s'.blk k).isSome = true then β k else none, ?_⟩
  generalize hβ' : (fun k => if (s'.blk k).isSome = true then β k else none) = β'
  have e1 : ∀ k, (s'.blk k).isSome = true → β' k = β k := fun k hk => by rw [← hβ']; simp [hk]
  have e2 : ∀ k, s'.blk k = none → β' k = none := fun k hk => by rw [← hβ']; simp [hk]
  have e3 : ∀ j bj, β' j = some bj → β j = some bj ∧ (s'.blk j).isSome = true := fun j bj hj => by
    cases hs : s'.blk j with
    | none => rw [e2 j hs] at hj; cases hj
    | some b => rw [e1 j (by rw [hs]; rfl)] at hj; exact ⟨hj, rfl⟩
  have hblk : ∀ k b, s'.blk k = some b → BSub s'.blk (s.blk k) b ∧ k ∈ keysB s'.blks ∧ ∀ k' ∈ b.keys, k' ∈ keysB s'.blks := fun k b hb => by
    simp only [St.blk] at hb
    refine checkB_get hB k b ?_
    cases hl : lk s'.blks k with
    | none => rw [hl] at hb; cases hb
    | some x => rw [hl] at hb; simp only [Option.join_some] at hb; rw [hb]
  have had : Ad w (Av X β) w (Av X β') := ⟨Nat.le_refl _, fun b _ hA => ⟨rfl, fun hA' => hA (by
    rcases hA' with hx | ⟨j, bj, hj, hv, hb⟩
    · exact .inl hx
    · exact .inr ⟨j, bj, (e3 j bj hj).1, hv, hb⟩)⟩⟩
  have arm : ∀ {p : AV} {v : Value}, AR w (Av X β) β p v → AR w (Av X β') β' p v := by
    intro p v hp
    induction hp with
    | junk v => exact .junk v
    | gh i t v => exact .gh i t v
    | pure p v hp => exact .pure p v (hp.mono had)
    | loc k i j bi hb =>
      cases hk : β' k with
      | none => exact .locDead _ _ _ _ hk
      | some bj => have := (e3 k bj hk).1; rw [hb] at this; cases this; exact .loc _ _ _ _ hk
    | locDead k i j v hb =>
      cases hk : β' k with
      | none => exact .locDead _ _ _ _ hk
      | some bj => have := (e3 k bj hk).1; rw [hb] at this; cases this
    | lsl k i n bi cap hb hv hn hc hi hm =>
      cases hk : β' k with
      | none => exact .lslDead _ _ _ _ hk
      | some bj => have := (e3 k bj hk).1; rw [hb] at this; cases this; exact .lsl _ _ _ _ _ hk hv hn hc hi hm
    | lslV k i bi a hb hi =>
      cases hk : β' k with
      | none => exact .lslDead _ _ _ _ hk
      | some bj => have := (e3 k bj hk).1; rw [hb] at this; cases this; exact .lslV _ _ _ _ hk hi
    | lslDead k i n v hb =>
      cases hk : β' k with
      | none => exact .lslDead _ _ _ _ hk
      | some bj => have := (e3 k bj hk).1; rw [hb] at this; cases this
    | agg cs vs hl _ ih => exact .agg cs vs hl ih
    | fn f cs vs hl _ ih => exact .fn f cs vs hl ih
    | tup cs vs hl _ ih => exact .tup cs vs hl ih
  have hlive : ∀ k, (s'.blk k).isSome = true → ∃ bi, β k = some bi := fun k hk => by
    cases hs : s'.blk k with
    | none => rw [hs] at hk; cases hk
    | some b =>
      have hb := (hblk k b hs).1
      have : ∃ b0, s.blk k = some b0 := by
        cases b with
        | row sz rows => exact ⟨_, hb⟩
        | box cells => obtain ⟨c, hc, _⟩ := hb; exact ⟨_, hc⟩
      obtain ⟨b0, hb0⟩ := this
      obtain ⟨bi, hbi, _⟩ := h.live hb0
      exact ⟨bi, hbi⟩
  have sub : ∀ {v v' : AV} {u : Value}, SubA s'.blk v v' → AR w (Av X β) β v u → AR w (Av X β') β' v' u := by
    rintro v v' u (rfl | rfl | ⟨p, q, rfl, rfl, hs⟩ | ⟨k, rfl, rfl, hk⟩) hu
    · exact arm hu
    · exact .junk _
    · cases hu with | pure _ _ hp => exact .pure _ _ (hs _ _ _ (hp.mono had))
    · rw [AR.val_inv (Γ := Γ.atX X) hu]
      obtain ⟨bi, hbi⟩ := hlive k hk
      exact .lslV k 0 bi none ((e1 k hk).trans hbi) (Nat.zero_le _)
  have hget : ∀ t, SubA s'.blk (s.get t) (s'.get t) ∧ ∀ k ∈ (s'.get t).keys, k ∈ s'.used := fun t => by
    cases hl : lk s'.env t with
    | none =>
      have e : s'.get t = .junk := by simp [St.get, hl]
      rw [e]
      exact ⟨.inr (.inl rfl), by simp [AV.keys]⟩
    | some v =>
      have e : s'.get t = v := by simp [St.get, hl]
      rw [e]
      obtain ⟨h1, h2⟩ := checkE_get hE t v hl
      exact ⟨h1, fun k hk => subB_spec hu1 k (h2 k hk)⟩
  refine ⟨?_, g.sub, g.old, fun hon i t hi => Γ.y.stable i t X _ _ w w (g.gh hon i t ?_) (Kp.refl _ _) ?_, g.lone, g.nd, g.marks⟩
  rotate_left
  rotate_left
  · rintro b ⟨k, bi, hk, hv, rfl⟩
    exact ⟨.inl ⟨k, bi, (e3 k bi hk).1, hv, rfl⟩, h.lt k bi (e3 k bi hk).1 hv⟩
  rotate_left
  · have := (hget Γ.N).1
    rw [hi] at this
    rcases this with e | e | ⟨p, q, _, e, _⟩ | ⟨k, _, e, _⟩
    · exact e
    · cases e
    · cases e
    · cases e
  exact
  { size := h.size
    slots := fun t => sub (hget t).1 (h.slots t)
    blks := fun k => by
      cases hs : s'.blk k with
      | none => rw [e2 k hs]; trivial
      | some b =>
        obtain ⟨h1, _, _⟩ := hblk k b hs
        have hk : (s'.blk k).isSome = true := by rw [hs]; rfl
        rw [e1 k hk]
        cases b with
        | row sz rows =>
          have h1 : s.blk k = some (.row sz rows) := h1
          obtain ⟨bi, hbi, hbo⟩ := h.live h1
          rw [hbi]
          exact BOK.mono (β := β) (β' := β') (blk := .row sz rows) had hbo (fun y hy => by simp only [Blk.keys, List.not_mem_nil] at hy) fun _ => rfl
        | box cells' =>
          obtain ⟨cells, hc, hsub⟩ := h1
          obtain ⟨bi, hbi, g1, cs, e, fz, g2, g3, g4, g5, g6⟩ := h.live hc
          obtain ⟨q1, q2⟩ := hsub.get
          rw [hbi]
          refine ⟨g1, cs, e, fz, g2, g3, by omega, g5, fun j av hj => ?_⟩
          obtain ⟨p, hp, hps⟩ := q2 j av hj
          exact ⟨sub hps (g6 j p hp).1, (g6 j p hp).2⟩
    inj := fun j j' bj bj' hj hj' => h.inj j j' bj bj' (e3 j bj hj).1 (e3 j' bj' hj').1
    lt := fun j bj hj => h.lt j bj (e3 j bj hj).1
    notX := fun j bj hj => h.notX j bj (e3 j bj hj).1
    own := fun j bj hj => h.own j bj (e3 j bj hj).1
    fixd := fun j hj => (e1 j (liveAll_spec hfx j hj)).trans (h.fixd j hj)
    used1 := fun t => (hget t).2
    used2 := fun k b hb => by
      obtain ⟨_, h2, h3⟩ := hblk k b hb
      exact ⟨subB_spec hu2 k h2, fun k' hk' => subB_spec hu2 k' (h3 k' hk')⟩
    keep := h.keep
    Xlt := h.Xlt }

/-- The name of a row that has no element yet. -/
theorem Le.virt {Γ : Ctx} {s : St} {k sz : Nat} (hk : freshIn k s.used = true) (hfx : freshIn k Γ.fx = true) (hsz : 0 < sz) : Le Γ s (s.new k (.row sz [])) := by
  rintro a w ⟨X, β, h, g⟩
  have hn := h.newK (freshIn_spec hk) (freshIn_spec hfx) ⟨0, sz, 0, 0, true⟩ (.row sz []) (Nat.le_refl _) (fun _ _ => rfl) rfl rfl rfl (fun hv => by cases hv) (by simp [Blk.keys])
    (fun β' _ _ _ => ⟨rfl, hsz, rfl, by simp, .inl ⟨rfl, rfl⟩⟩)
  refine ⟨X, _, hn, g.sub, g.old, fun hon i t hi => Γ.y.stable i t X _ _ w w (g.gh hon i t hi) (Kp.refl _ _) ?_, g.lone, g.nd, g.marks⟩
  rintro b ⟨j, bj, hj, hv, rfl⟩
  by_cases e : j = k
  · simp only [e, if_true, Option.some.injEq] at hj
    rw [← hj] at hv; cases hv
  · simp only [e, if_false] at hj
    exact ⟨.inl ⟨j, bj, hj, hv, rfl⟩, h.lt j bj hj hv⟩

/-- A block is given up to be read only. -/
theorem Le.frz {Γ : Ctx} {s : St} (k : Nat) (hfx : freshIn k Γ.fx = true) : Le Γ s (s.freeze k) := by
  rintro a w ⟨X, β, h, g⟩
  obtain ⟨β', h1, _, h3, _⟩ := h.freeze (freshIn_spec hfx)
  refine ⟨X, β', h1, g.sub, g.old, fun hon i t hi => Γ.y.stable i t X _ _ w w (g.gh hon i t (freeze_gh hi)) (Kp.refl _ _) ?_, g.lone, g.nd, g.marks⟩
  rintro b ⟨j, bj, hj, hv, rfl⟩
  exact ⟨.inl ⟨j, bj, h3 j bj hj, hv, rfl⟩, h1.lt j bj hj hv⟩

/-- Names are changed. -/
def idSig (M : List (Nat × Nat)) (k : Nat) : Nat := (lk M k).getD k
def renE (M : List (Nat × Nat)) : List (Nat × AV) → List (Nat × AV)
  | [] => []
  | (t, v) :: l => (t, v.ren (idSig M)) :: renE M l
def renB (M : List (Nat × Nat)) : List (Nat × Option Blk) → List (Nat × Option Blk)
  | [] => []
  | (k, none) :: l => (idSig M k, none) :: renB M l
  | (k, some b) :: l => (idSig M k, some (b.ren (idSig M))) :: renB M l
def renSt (M : List (Nat × Nat)) (s : St) : St := ⟨renE M s.env, renB M s.blks, s.used.map (idSig M)⟩
def injB (M : List (Nat × Nat)) : List Nat → Bool
  | [] => true
  | k :: l => bif freshIn k l then (bif freshIn (idSig M k) (l.map (idSig M)) then injB M l else false) else injB M l
def fixB (M : List (Nat × Nat)) : List Nat → Bool
  | [] => true
  | k :: l => bif Nat.beq (idSig M k) k then fixB M l else false
def renOK (M : List (Nat × Nat)) (s : St) (fx : List Nat) : Bool :=
  injB M s.used && subB (keysE s.env) s.used && subB (keysB s.blks) s.used && subB fx s.used && fixB M fx && subB (s.blks.map (·.1)) s.used

theorem injB_spec {M : List (Nat × Nat)} : ∀ {l : List Nat}, injB M l = true → ∀ j ∈ l, ∀ k ∈ l, idSig M j = idSig M k → j = k
  | [], _, j, hj, _, _, _ => by cases hj
  | x :: l, h, j, hj, k, hk, e => by
    simp only [injB] at h
    cases hx : freshIn x l with
    | false =>
      rw [hx] at h
      have hm := freshIn_not hx
      have hj' : j ∈ l := by rcases List.mem_cons.1 hj with rfl | hj; exact hm; exact hj
      have hk' : k ∈ l := by rcases List.mem_cons.1 hk with rfl | hk; exact hm; exact hk
      exact injB_spec (by simpa using h) j hj' k hk' e
    | true =>
      rw [hx] at h
      simp only [cond_true] at h
      cases hy : freshIn (idSig M x) (l.map (idSig M)) with
      | false => rw [hy] at h; cases h
      | true =>
        rw [hy] at h
        have hn := freshIn_spec hy
        rcases List.mem_cons.1 hj with ej | hj' <;> rcases List.mem_cons.1 hk with ek | hk'
        · rw [ej, ek]
        · subst ej; exact absurd (List.mem_map.2 ⟨k, hk', e.symm⟩) hn
        · subst ek; exact absurd (List.mem_map.2 ⟨j, hj', e⟩) hn
        · exact injB_spec (by simpa using h) j hj' k hk' e
theorem fixB_spec {M : List (Nat × Nat)} : ∀ {l : List Nat}, fixB M l = true → ∀ k ∈ l, idSig M k = k
  | [], _, k, hk => by cases hk
  | x :: l, h, k, hk => by
    simp only [fixB, beq_eq_decide] at h
    by_cases e : idSig M x = x
    · simp only [e, decide_true, cond_true] at h
      rcases List.mem_cons.1 hk with rfl | hk
      · exact e
      · exact fixB_spec h k hk
    · simp [e] at h
theorem renE_lk {M : List (Nat × Nat)} : ∀ (l : List (Nat × AV)) (t : Nat), lk (renE M l) t = (lk l t).map (AV.ren (idSig M))
  | [], t => rfl
  | (d, v) :: l, t => by
    simp only [renE, lk_cons]
    by_cases e : d = t
    · simp [e]
    · simp [e, renE_lk l t]
theorem renB_lk {M : List (Nat × Nat)} {U : List Nat} (hi : ∀ j ∈ U, ∀ k ∈ U, idSig M j = idSig M k → j = k) : ∀ (l : List (Nat × Option Blk)), (∀ x ∈ l, x.1 ∈ U) → ∀ k ∈ U, lk (renB M l) (idSig M k) = (lk l k).map (Option.map (Blk.ren (idSig M)))
  | [], _, k, _ => rfl
  | (d, none) :: l, hl, k, hk => by
    simp only [renB, lk_cons]
    by_cases e : d = k
    · simp [e]
    · rw [if_neg e, if_neg fun e' => e (hi d (hl _ List.mem_cons_self) k hk e')]
      exact renB_lk hi l (fun x hx => hl x (List.mem_cons_of_mem _ hx)) k hk
  | (d, some b) :: l, hl, k, hk => by
    simp only [renB, lk_cons]
    by_cases e : d = k
    · simp [e]
    · rw [if_neg e, if_neg fun e' => e (hi d (hl _ List.mem_cons_self) k hk e')]
      exact renB_lk hi l (fun x hx => hl x (List.mem_cons_of_mem _ hx)) k hk

theorem lk_keysE {l : List (Nat × AV)} {t : Nat} {v : AV} (h : lk l t = some v) : ∀ k ∈ v.keys, k ∈ keysE l := by
  induction l with
  | nil => cases h
  | cons x l ih =>
    obtain ⟨d, u⟩ := x
    rw [lk_cons] at h
    intro k hk
    simp only [keysE, List.mem_append]
    split at h
    · cases h; exact .inl hk
    · exact .inr (ih h k hk)
theorem lk_keysB {l : List (Nat × Option Blk)} {t : Nat} {b : Blk} (h : lk l t = some (some b)) : t ∈ keysB l ∧ ∀ k ∈ b.keys, k ∈ keysB l := by
  induction l with
  | nil => cases h
  | cons x l ih =>
    obtain ⟨d, u⟩ := x
    rw [lk_cons] at h
    split at h
    · rename_i e
      subst e
      cases h
      simp only [keysB]
      exact ⟨List.mem_cons_self, fun k hk => List.mem_cons_of_mem _ (List.mem_append_left _ hk)⟩
    · obtain ⟨h1, h2⟩ := ih h
      cases u with
      | none => exact ⟨h1, h2⟩
      | some c =>
        simp only [keysB]
        exact ⟨List.mem_cons_of_mem _ (List.mem_append_right _ h1), fun k hk => List.mem_cons_of_mem _ (List.mem_append_right _ (h2 k hk))⟩

theorem Le.unren {Γ : Ctx} (s : St) (M : List (Nat × Nat)) (hok : renOK M s Γ.fx = true) : Le Γ (renSt M s) s := by
  simp only [renOK, Bool.and_eq_true] at hok
  obtain ⟨⟨⟨⟨⟨o1, o2⟩, o3⟩, o4⟩, o5⟩, o6⟩ := hok
  have hi := injB_spec o1
  have hsubE := subB_spec o2
  have hsubB := subB_spec o3
  have hfxU := subB_spec o4
  have hfix := fixB_spec o5
  have hkeys : ∀ x ∈ s.blks, x.1 ∈ s.used := fun x hx => subB_spec o6 _ (List.mem_map.2 ⟨x, hx, rfl⟩)
  rintro a w ⟨X, β, h, g⟩
  generalize hβ' : (fun k => if k ∈ s.used then β (idSig M k) else none) = β'
  have e1 : ∀ k ∈ s.used, β' k = β (idSig M k) := fun k hk => by rw [← hβ']; simp [hk]
  have e2 : ∀ k, k ∉ s.used → β' k = none := fun k hk => by rw [← hβ']; simp [hk]
  have e3 : ∀ k bi, β' k = some bi → k ∈ s.used ∧ β (idSig M k) = some bi := fun k bi hk => by
    by_cases e : k ∈ s.used
    · exact ⟨e, by rw [← e1 k e]; exact hk⟩
    · rw [e2 k e] at hk; cases hk
  have had : Ad w (Av X β) w (Av X β') := ⟨Nat.le_refl _, fun b _ hA => ⟨rfl, fun hA' => hA (by
    rcases hA' with hx | ⟨j, bj, hj, hv, hb⟩
    · exact .inl hx
    · exact .inr ⟨_, bj, (e3 j bj hj).2, hv, hb⟩)⟩⟩
  have hget : ∀ t, (renSt M s).get t = (s.get t).ren (idSig M) := fun t => by
    simp only [renSt, St.get, renE_lk]
    cases lk s.env t <;> rfl
  have hgk : ∀ t, ∀ k ∈ (s.get t).keys, k ∈ s.used := fun t k hk => by
    unfold St.get at hk
    cases hl : lk s.env t with
    | none => rw [hl] at hk; simp [AV.keys] at hk
    | some v => rw [hl] at hk; exact hsubE k (lk_keysE hl k hk)
  have hblk : ∀ k ∈ s.used, (renSt M s).blk (idSig M k) = (s.blk k).map (Blk.ren (idSig M)) := fun k hk => by
    simp only [renSt, St.blk, renB_lk hi s.blks hkeys k hk]
    cases lk s.blks k with
    | none => rfl
    | some x => cases x <;> rfl
  have hbk : ∀ k b, s.blk k = some b → k ∈ s.used ∧ ∀ k' ∈ b.keys, k' ∈ s.used := fun k b hb => by
    simp only [St.blk] at hb
    cases hl : lk s.blks k with
    | none => rw [hl] at hb; cases hb
    | some x =>
      rw [hl] at hb
      simp only [Option.join_some] at hb
      subst hb
      obtain ⟨h1, h2⟩ := lk_keysB hl
      exact ⟨hsubB k h1, fun k' hk' => hsubB k' (h2 k' hk')⟩
  refine ⟨X, β', ?_, g.sub, g.old, fun hon i t ht => Γ.y.stable i t X _ _ w w (g.gh hon i t (by rw [hget, ht]; rfl)) (Kp.refl _ _) (by
    rintro b ⟨j, bj, hj, hv, rfl⟩
    exact ⟨.inl ⟨_, bj, (e3 j bj hj).2, hv, rfl⟩, h.lt _ bj (e3 j bj hj).2 hv⟩), g.lone, g.nd, g.marks⟩
  exact
  { size := h.size
    slots := fun t => by
      have := h.slots t
      rw [hget] at this
      exact AR.unren had this rfl fun k hk => e1 k (hgk t k hk)
    blks := fun k => by
      by_cases hk : k ∈ s.used
      · have hb := h.blks (idSig M k)
        rw [hblk k hk] at hb
        rw [e1 k hk]
        cases hs : s.blk k with
        | none =>
          rw [hs] at hb
          cases hβ : β (idSig M k) with
          | none => trivial
          | some bi => rw [hβ] at hb; exact hb.elim
        | some b =>
          rw [hs] at hb
          cases hβ : β (idSig M k) with
          | none => rw [hβ] at hb; exact hb.elim
          | some bi =>
            rw [hβ] at hb
            exact BOK.unren had hb (fun k' hk' => e1 k' ((hbk k b hs).2 k' hk')) fun _ => rfl
      · rw [e2 k hk]
        cases hs : s.blk k with
        | none => trivial
        | some b => exact absurd (hbk k b hs).1 hk
    inj := fun j k bj bk hj hk hvj hvk hb => by
      obtain ⟨p1, p2⟩ := e3 j bj hj
      obtain ⟨q1, q2⟩ := e3 k bk hk
      exact hi j p1 k q1 (h.inj _ _ bj bk p2 q2 hvj hvk hb)
    lt := fun k bi hk => h.lt _ bi (e3 k bi hk).2
    notX := fun k bi hk => h.notX _ bi (e3 k bi hk).2
    own := fun k bi hk => h.own _ bi (e3 k bi hk).2
    fixd := fun k hk => by
      rw [e1 k (hfxU k hk), hfix k hk]
      exact h.fixd k hk
    used1 := hgk
    used2 := hbk
    keep := h.keep
    Xlt := h.Xlt }

/-- A state is forgotten in part, and names are changed. -/
theorem Le.map {Γ : Ctx} {s s' : St} (M : List (Nat × Nat)) (hE : checkE s (renSt M s').blk (renE M s'.env)) (hB : checkB s (renSt M s').blk (renB M s'.blks)) (hu1 : subB (keysE (renE M s'.env)) (s'.used.map (idSig M)) = true)
    (hu2 : subB (keysB (renB M s'.blks)) (s'.used.map (idSig M)) = true) (hfx : liveAll (renSt M s') Γ.fx = true) (hok : renOK M s' Γ.fx = true) : Le Γ s s' :=
  Le.trans (Le.of (s' := renSt M s') hE hB hu1 hu2 hfx) (Le.unren s' M hok)

theorem Wp.le {Γ : Ctx} {F : Fence} {n : Nat} {c : Code} {s s' : St} {K : Exit → St → Prop} (hl : Le Γ s s') (h : Wp Γ F n c s' K) : Wp Γ F n c s K := fun a w hR => h a w (hl a w hR)

/-- A loop: a family of states, a measure. -/
theorem Wp.loop {Γ : Ctx} {F : Fence} {n : Nat} {c : Code} {s : St} {K : Exit → St → Prop} {ι : Type} (fam : ι → St) (ok : ι → Prop) (μ : ι → Nat) (i0 : ι) (h0 : Le Γ s (fam i0)) (ok0 : ok i0)
    (round : ∀ i, ok i → Wp Γ F n c (fam i) fun e s' => match e with
      | .normal => ∃ j, Le Γ s' (fam j) ∧ ok j ∧ μ j < μ i
      | e => K e s') : Wp Γ F n (.loop c) s K := by
  intro a w hR
  have key : ∀ m i a w, μ i = m → ok i → R Γ (fam i) a w → (Code.loop c).wpIn F n Γ.P (fun e a' w' => ∃ s', K e s' ∧ R Γ s' a' w') a w := by
    intro m i a w _ hi hR
    -- the measure is read off the best index that fits
    let I : Act → World → Prop := fun a' w' => ∃ j, ok j ∧ R Γ (fam j) a' w'
    have hdec : ∀ a' w', I a' w' → ∃ j, ok j ∧ R Γ (fam j) a' w' ∧ ∀ j', ok j' → R Γ (fam j') a' w' → μ j ≤ μ j' := by
      rintro a' w' ⟨j, hj, hr⟩
      have : ∀ m j, μ j = m → ok j → R Γ (fam j) a' w' → ∃ j, ok j ∧ R Γ (fam j) a' w' ∧ ∀ j', ok j' → R Γ (fam j') a' w' → μ j ≤ μ j' := by
        intro m
        induction m using Nat.strongRecOn with
        | _ m ih =>
          intro j hm hj hr
          by_cases hx : ∃ j', ok j' ∧ R Γ (fam j') a' w' ∧ μ j' < μ j
          · obtain ⟨j', h1, h2, h3⟩ := hx
            exact ih (μ j') (hm ▸ h3) j' rfl h1 h2
          · refine ⟨j, hj, hr, fun j' h1 h2 => ?_⟩
            rcases Nat.lt_or_ge (μ j') (μ j) with h3 | h3
            · exact absurd ⟨j', h1, h2, h3⟩ hx
            · exact h3
      exact this _ j rfl hj hr
    let best : Act → World → Nat := fun a' w' => by
      classical
      exact if h : I a' w' then μ (Classical.choose (hdec a' w' h)) else 0
    have hbest : ∀ a' w' j, ok j → R Γ (fam j) a' w' → best a' w' ≤ μ j := fun a' w' j hj hr => by
      have hI : I a' w' := ⟨j, hj, hr⟩
      simp only [best, dif_pos hI]
      exact (Classical.choose_spec (hdec a' w' hI)).2.2 j hj hr
    refine wpIn_loop I best ⟨i, hi, hR⟩ fun a' w' hI => ?_
    obtain ⟨j, hj, hr, hmin⟩ := hdec a' w' hI
    have hbe : best a' w' = μ (Classical.choose (hdec a' w' hI)) := by simp only [best, dif_pos hI]
    have hs := Classical.choose_spec (hdec a' w' hI)
    have heq : μ j = best a' w' := Nat.le_antisymm (by rw [hbe]; exact hmin _ hs.1 hs.2.1) (hbest a' w' j hj hr)
    refine wpIn_mono (round j hj a' w' hr) ?_
    rintro e a'' w'' ⟨s', h1, h2⟩
    cases e with
    | normal =>
      obtain ⟨j', hl, hj', hlt⟩ := h1
      exact ⟨⟨j', hj', hl _ _ h2⟩, by have := hbest a'' w'' j' hj' (hl _ _ h2); omega⟩
    | exit id => exact ⟨s', h1, h2⟩
    | goto l => exact ⟨s', h1, h2⟩
    | ret => exact ⟨s', h1, h2⟩
    | panic c => exact ⟨s', h1, h2⟩
    | outgrown => exact ⟨s', h1, h2⟩
  exact key _ i0 a w rfl ok0 (h0 a w hR)
end Go.Avc
