/- Contracts with blocks: what a function is handed to change, and what it hands back of its own. Conditions: none. -/
import Derived.Test.YtmkkfgifeekgeaaVcH
namespace Go.Avc
open Go.RowKit

mutual
def AV.ren (σ : Nat → Nat) : AV → AV
  | .loc k i j => .loc (σ k) i j
  | .lsl k i n => .lsl (σ k) i n
  | .agg cs => .agg (AV.renL σ cs)
  | .fn f cs => .fn f (AV.renL σ cs)
  | .tup cs => .tup (AV.renL σ cs)
  | .junk => .junk
  | .gh i t => .gh i t
  | .pure p => .pure p
def AV.renL (σ : Nat → Nat) : List AV → List AV
  | [] => []
  | a :: l => a.ren σ :: AV.renL σ l
end
def Blk.ren (σ : Nat → Nat) : Blk → Blk
  | .box cs => .box (AV.renL σ cs)
  | .row sz rows => .row sz rows

theorem AV.renL_eq (σ : Nat → Nat) : ∀ l : List AV, AV.renL σ l = l.map (AV.ren σ)
  | [] => rfl
  | a :: l => by simp [AV.renL, AV.renL_eq σ l]
theorem keysL_get {l : List AV} {j : Nat} {p : AV} (h : l[j]? = some p) {k : Nat} (hk : k ∈ p.keys) : k ∈ AV.keysL l := AV.mem_keysL.2 ⟨p, List.mem_of_getElem? h, hk⟩
mutual
theorem AV.keys_ren (σ : Nat → Nat) : ∀ (p : AV) (k : Nat), k ∈ (p.ren σ).keys ↔ ∃ j ∈ p.keys, σ j = k
  | .loc k i j, x => by simp [AV.ren, AV.keys, eq_comm]
  | .lsl k i n, x => by simp [AV.ren, AV.keys, eq_comm]
  | .junk, x => by simp [AV.ren, AV.keys]
  | .gh _ _, x => by simp [AV.ren, AV.keys]
  | .pure p, x => by simp [AV.ren, AV.keys]
  | .agg cs, x => by simp only [AV.ren, AV.keys]; exact AV.keysL_ren σ cs x
  | .fn f cs, x => by simp only [AV.ren, AV.keys]; exact AV.keysL_ren σ cs x
  | .tup cs, x => by simp only [AV.ren, AV.keys]; exact AV.keysL_ren σ cs x
theorem AV.keysL_ren (σ : Nat → Nat) : ∀ (l : List AV) (k : Nat), k ∈ AV.keysL (AV.renL σ l) ↔ ∃ j ∈ AV.keysL l, σ j = k
  | [], x => by simp [AV.renL, AV.keysL]
  | a :: l, x => by
    simp only [AV.renL, AV.keysL, List.mem_append, AV.keys_ren σ a x, AV.keysL_ren σ l x]
    constructor
    · rintro (⟨j, h, e⟩ | ⟨j, h, e⟩)
      · exact ⟨j, .inl h, e⟩
      · exact ⟨j, .inr h, e⟩
    · rintro ⟨j, h | h, e⟩
      · exact .inl ⟨j, h, e⟩
      · exact .inr ⟨j, h, e⟩
end

theorem AR.ren {w w' : World} {A A' : Nat → Prop} {β β' : BM} (had : Ad w A w' A') {σ : Nat → Nat} {p : AV} {v : Value} (h : AR w A β p v) (hk : ∀ k ∈ p.keys, β' (σ k) = β k) : AR w' A' β' (p.ren σ) v := by
  induction h with
  | junk v => exact .junk v
  | gh i t v => exact .gh i t v
  | pure p v hp => exact .pure p v (hp.mono had)
  | loc k i j bi hb => exact .loc _ i j bi ((hk k (by simp [AV.keys])).trans hb)
  | locDead k i j v hb => exact .locDead _ i j v ((hk k (by simp [AV.keys])).trans hb)
  | lsl k i n bi cap hb hv hn hc hi hm => exact .lsl _ i n bi cap ((hk k (by simp [AV.keys])).trans hb) hv hn hc hi hm
  | lslV k i bi a hb hi => exact .lslV _ i bi a ((hk k (by simp [AV.keys])).trans hb) hi
  | lslDead k i n v hb => exact .lslDead _ i n v ((hk k (by simp [AV.keys])).trans hb)
  | agg cs vs hl _ ih =>
    simp only [AV.ren, AV.renL_eq]
    refine .agg _ vs (by simpa using hl) fun j q hj => ?_
    simp only [List.getElem?_map, Option.map_eq_some_iff] at hj
    obtain ⟨p, hp, rfl⟩ := hj
    exact ih j p hp fun k hkp => hk k (by simp only [AV.keys]; exact keysL_get hp hkp)
  | fn f cs vs hl _ ih =>
    simp only [AV.ren, AV.renL_eq]
    refine .fn f _ vs (by simpa using hl) fun j q hj => ?_
    simp only [List.getElem?_map, Option.map_eq_some_iff] at hj
    obtain ⟨p, hp, rfl⟩ := hj
    exact ih j p hp fun k hkp => hk k (by simp only [AV.keys]; exact keysL_get hp hkp)
  | tup cs vs hl _ ih =>
    simp only [AV.ren, AV.renL_eq]
    refine .tup _ vs (by simpa using hl) fun j q hj => ?_
    simp only [List.getElem?_map, Option.map_eq_some_iff] at hj
    obtain ⟨p, hp, rfl⟩ := hj
    exact ih j p hp fun k hkp => hk k (by simp only [AV.keys]; exact keysL_get hp hkp)

theorem AR.unren {w w' : World} {A A' : Nat → Prop} {β β' : BM} (had : Ad w A w' A') {σ : Nat → Nat} {q : AV} {v : Value} (h : AR w A β q v) : ∀ {p : AV}, q = p.ren σ → (∀ k ∈ p.keys, β' k = β (σ k)) → AR w' A' β' p v := by
  induction h with
  | gh i t v =>
    intro p e hk
    cases p <;> simp only [AV.ren] at e <;> first | exact .gh _ _ v | cases e
  | junk v =>
    intro p e hk
    cases p <;> simp only [AV.ren] at e <;> first | exact .junk v | cases e
  | pure p v hp =>
    intro p' e hk
    cases p' <;> simp only [AV.ren] at e <;> first | (injection e with e; subst e; exact .pure _ v (hp.mono had)) | cases e
  | loc k i j bi hb =>
    intro p e hk
    cases p <;> simp only [AV.ren] at e <;> first | (injection e with e1 e2 e3; subst e1 e2 e3; exact .loc _ _ _ bi ((hk _ (by simp [AV.keys])).trans hb)) | cases e
  | locDead k i j v hb =>
    intro p e hk
    cases p <;> simp only [AV.ren] at e <;> first | (injection e with e1 e2 e3; subst e1 e2 e3; exact .locDead _ _ _ v ((hk _ (by simp [AV.keys])).trans hb)) | cases e
  | lsl k i n bi cap hb hv hn hc hi hm =>
    intro p e hk
    cases p <;> simp only [AV.ren] at e <;> first | (injection e with e1 e2 e3; subst e1 e2 e3; exact .lsl _ _ _ bi cap ((hk _ (by simp [AV.keys])).trans hb) hv hn hc hi hm) | cases e
  | lslV k i bi a hb hi =>
    intro p e hk
    cases p <;> simp only [AV.ren] at e <;> first | (injection e with e1 e2 e3; subst e1 e2 e3; exact .lslV _ _ bi a ((hk _ (by simp [AV.keys])).trans hb) hi) | cases e
  | lslDead k i n v hb =>
    intro p e hk
    cases p <;> simp only [AV.ren] at e <;> first | (injection e with e1 e2 e3; subst e1 e2 e3; exact .lslDead _ _ _ v ((hk _ (by simp [AV.keys])).trans hb)) | cases e
  | agg cs vs hl _ ih =>
    intro p e hk
    cases p with
    | agg cs' =>
      simp only [AV.ren] at e
      injection e with e
      subst e
      rw [AV.renL_eq] at hl ih
      refine .agg _ vs (by simpa using hl) fun j q hj => ih j (q.ren σ) (by simp [hj]) rfl fun k hkp => hk k (by simp only [AV.keys]; exact keysL_get hj hkp)
    | _ => exact absurd e (by simp [AV.ren])
  | fn f cs vs hl _ ih =>
    intro p e hk
    cases p with
    | fn f' cs' =>
      simp only [AV.ren] at e
      injection e with e1 e
      subst e1
      subst e
      rw [AV.renL_eq] at hl ih
      refine .fn _ _ vs (by simpa using hl) fun j q hj => ih j (q.ren σ) (by simp [hj]) rfl fun k hkp => hk k (by simp only [AV.keys]; exact keysL_get hj hkp)
    | _ => exact absurd e (by simp [AV.ren])
  | tup cs vs hl _ ih =>
    intro p e hk
    cases p with
    | tup cs' =>
      simp only [AV.ren] at e
      injection e with e
      subst e
      rw [AV.renL_eq] at hl ih
      refine .tup _ vs (by simpa using hl) fun j q hj => ih j (q.ren σ) (by simp [hj]) rfl fun k hkp => hk k (by simp only [AV.keys]; exact keysL_get hj hkp)
    | _ => exact absurd e (by simp [AV.ren])

/-- Names may die. -/
theorem AR.weak {w w' : World} {A A' : Nat → Prop} {β β' : BM} (had : Ad w A w' A') {p : AV} {v : Value} (h : AR w A β p v) (hk : ∀ k ∈ p.keys, β' k = β k ∨ β' k = none) : AR w' A' β' p v := by
  induction h with
  | junk v => exact .junk v
  | gh i t v => exact .gh i t v
  | pure p v hp => exact .pure p v (hp.mono had)
  | loc k i j bi hb =>
    rcases hk k (by simp [AV.keys]) with e | e
    · exact .loc k i j bi (e.trans hb)
    · exact .locDead _ _ _ _ e
  | locDead k i j v hb =>
    rcases hk k (by simp [AV.keys]) with e | e
    · exact .locDead k i j v (e.trans hb)
    · exact .locDead _ _ _ _ e
  | lsl k i n bi cap hb hv hn hc hi hm =>
    rcases hk k (by simp [AV.keys]) with e | e
    · exact .lsl k i n bi cap (e.trans hb) hv hn hc hi hm
    · exact .lslDead _ _ _ _ e
  | lslV k i bi a hb hi =>
    rcases hk k (by simp [AV.keys]) with e | e
    · exact .lslV k i bi a (e.trans hb) hi
    · exact .lslDead _ _ _ _ e
  | lslDead k i n v hb =>
    rcases hk k (by simp [AV.keys]) with e | e
    · exact .lslDead k i n v (e.trans hb)
    · exact .lslDead _ _ _ _ e
  | agg cs vs hl _ ih => exact .agg cs vs hl fun j p hj => ih j p hj fun k hkp => hk k (by simp only [AV.keys]; exact keysL_get hj hkp)
  | fn f cs vs hl _ ih => exact .fn f cs vs hl fun j p hj => ih j p hj fun k hkp => hk k (by simp only [AV.keys]; exact keysL_get hj hkp)
  | tup cs vs hl _ ih => exact .tup cs vs hl fun j p hj => ih j p hj fun k hkp => hk k (by simp only [AV.keys]; exact keysL_get hj hkp)

theorem BOK.weak {w w' : World} {A A' : Nat → Prop} {β β' : BM} (h : Ad w A w' A') {bi : BI} {blk : Blk} (hb : BOK w A β bi blk) (hk : ∀ k ∈ blk.keys, β' k = β k ∨ β' k = none)
    (hs : bi.virt = false → w'.heap[bi.b]? = w.heap[bi.b]?) : BOK w' A' β' bi blk := by
  cases blk with
  | box cells =>
    obtain ⟨h1, cs, e, fz, h2, h3, h4, h5, h6⟩ := hb
    refine ⟨h1, cs, e, fz, (hs h1).trans h2, h3, h4, h5, fun j av hj => ⟨(h6 j av hj).1.weak h fun k hkp => hk k ?_, (h6 j av hj).2⟩⟩
    simp only [Blk.keys]
    exact keysL_get hj hkp
  | row sz rows => exact BOK.mono (β := β) (β' := β') (blk := .row sz rows) h hb (fun y hy => by simp [Blk.keys] at hy) hs

theorem BOK.ren {w w' : World} {A A' : Nat → Prop} {β β' : BM} (h : Ad w A w' A') {σ : Nat → Nat} {bi : BI} {blk : Blk} (hb : BOK w A β bi blk) (hk : ∀ k ∈ blk.keys, β' (σ k) = β k)
    (hs : bi.virt = false → w'.heap[bi.b]? = w.heap[bi.b]?) : BOK w' A' β' bi (blk.ren σ) := by
  cases blk with
  | box cells =>
    obtain ⟨h1, cs, e, fz, h2, h3, h4, h5, h6⟩ := hb
    simp only [Blk.ren, AV.renL_eq]
    refine ⟨h1, cs, e, fz, (hs h1).trans h2, h3, by simpa using h4, h5, fun j av hj => ?_⟩
    simp only [List.getElem?_map, Option.map_eq_some_iff] at hj
    obtain ⟨p, hp, rfl⟩ := hj
    exact ⟨(h6 j p hp).1.ren h fun k hkp => hk k (by simp only [Blk.keys]; exact keysL_get hp hkp), (h6 j p hp).2⟩
  | row sz rows => exact BOK.mono (β := β) (β' := β') (blk := .row sz rows) h hb (fun y hy => by simp [Blk.keys] at hy) hs
theorem BOK.unren {w w' : World} {A A' : Nat → Prop} {β β' : BM} (h : Ad w A w' A') {σ : Nat → Nat} {bi : BI} {blk : Blk} (hb : BOK w A β bi (blk.ren σ)) (hk : ∀ k ∈ blk.keys, β' k = β (σ k))
    (hs : bi.virt = false → w'.heap[bi.b]? = w.heap[bi.b]?) : BOK w' A' β' bi blk := by
  cases blk with
  | box cells =>
    obtain ⟨h1, cs, e, fz, h2, h3, h4, h5, h6⟩ := hb
    rw [AV.renL_eq] at h4 h6
    refine ⟨h1, cs, e, fz, (hs h1).trans h2, h3, by simpa using h4, h5, fun j av hj => ?_⟩
    have := h6 j (av.ren σ) (by simp [hj])
    exact ⟨this.1.unren h rfl fun k hkp => hk k (by simp only [Blk.keys]; exact keysL_get hj hkp), this.2⟩
  | row sz rows => exact BOK.mono (β := β) (β' := β') (blk := .row sz rows) h hb (fun y hy => by simp [Blk.keys] at hy) hs

theorem Rl.Avlt {Γ : Ctx} {s : St} {w : World} {β : BM} {tm : Array Value} (h : Rl Γ s tm w β) : ∀ b, Av Γ.X β b → b < w.heap.size := by
  rintro b (hx | ⟨k, bi, hk, hv, rfl⟩)
  · exact h.Xlt b hx
  · exact h.lt k bi hk hv

/-- The contract of a function, its memory and all: s0 is how it begins (arguments in the slots), s1 how it ends (results in the slots); the names of fx stay as they are laid. -/
def GSpec (P : Program) (f : FuncId) (m : Nat) (s0 : St) (fx : List Nat) (r : Nat) (s1 : St) : Prop :=
  (∀ (vs : Array Value) (w : World), (callFunc f vs).run P w = .ok (.enter f vs) w) ∧
  ∀ (w : World) (X : Nat → Prop) (β0 : BM) (vs : Array Value), Rl (Ctx.plain P m w X β0 fx) s0 vs w β0 →
    Calls P f vs w fun e w' => ∃ us β', e = .returned (if us.size = 1 then us.getD 0 undef else .tuple us) ∧ Rl (Ctx.plain P r w X β0 fx) s1 us w' β'

def numE : Nat → List AV → List (Nat × AV)
  | _, [] => []
  | i, v :: l => (i, v) :: numE (i + 1) l
theorem numE_get : ∀ {l : List AV} {i t : Nat}, lk (numE i l) t = if i ≤ t then l[t - i]? else none
  | [], i, t => by simp [numE, lk]
  | v :: l, i, t => by
    simp only [numE, lk_cons, numE_get]
    by_cases h : i = t
    · subst h; simp
    · rw [if_neg h]
      by_cases h1 : i ≤ t
      · rw [if_pos (by omega), if_pos h1]
        have : t - i = (t - (i + 1)) + 1 := by omega
        rw [this]; simp
      · rw [if_neg (by omega), if_neg h1]

end Go.Avc
