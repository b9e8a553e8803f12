/- Contracts with blocks: what a function is handed to change, and what it hands back of its own. Conditions: none. -/
import Derived.Test.YtcgpikmaapallaaWa
set_option linter.unusedSimpArgs false
set_option linter.unusedVariables false
set_option maxRecDepth 20000
set_option maxHeartbeats 4000000
namespace Go.Avc
open Go.RowKit
mutual
def AV.ren (σ : Nat → Nat) : AV → AV
 | .loc k i j => .loc (σ k) i j
 | .lsl k i n => .lsl (σ k) i n
 | .agg cs => .agg (AV.renL σ cs)
 | .fn f cs => .fn f (AV.renL σ cs)
 | .tup cs => .tup (AV.renL σ cs)
 | .junk => .junk
 | .gh i t => .gh i t
 | .mp k => .mp (σ k)
 | .pure p => .pure p
def AV.renL (σ : Nat → Nat) : List AV → List AV
 | [] => []
 | a :: l => a.ren σ :: AV.renL σ l
end
def Blk.ren (σ : Nat → Nat) : Blk → Blk
 | .box cs => .box (AV.renL σ cs)
 | .row sz rows => .row sz rows
 | .mp es => .mp es
theorem AV.renL_eq (σ : Nat → Nat) : ∀ l : List AV, AV.renL σ l = l.map (AV.ren σ)
 | [] => rfl
 | a :: l => by simp [AV.renL, AV.renL_eq σ l]
theorem keysL_get {l : List AV} {j : Nat} {p : AV} (h : l[j]? = some p) {k : Nat} (hk : k ∈ p.keys) : k ∈ AV.keysL l := AV.mem_keysL.2 ⟨p, List.mem_of_getElem? h, hk⟩
mutual
theorem AV.keys_ren (σ : Nat → Nat) : ∀ (p : AV) (k : Nat), k ∈ (p.ren σ).keys ↔ ∃ j ∈ p.keys, σ j = k
 | .loc k i j, x => by simp [AV.ren, AV.keys, eq_comm]
 | .lsl k i n, x => by simp [AV.ren, AV.keys, eq_comm]
 | .junk, x => by simp [AV.ren, AV.keys]
 | .gh _ _, x => by simp [AV.ren, AV.keys]
 | .mp k, x => by simp [AV.ren, AV.keys, eq_comm]
 | .pure p, x => by simp [AV.ren, AV.keys]
 | .agg cs, x => by simp only [AV.ren, AV.keys]; exact AV.keysL_ren σ cs x
 | .fn f cs, x => by simp only [AV.ren, AV.keys]; exact AV.keysL_ren σ cs x
 | .tup cs, x => by simp only [AV.ren, AV.keys]; exact AV.keysL_ren σ cs x
theorem AV.keysL_ren (σ : Nat → Nat) : ∀ (l : List AV) (k : Nat), k ∈ AV.keysL (AV.renL σ l) ↔ ∃ j ∈ AV.keysL l, σ j = k
 | [], x => by simp [AV.renL, AV.keysL]
 | a :: l, x => by
   simp only [AV.renL, AV.keysL, List.mem_append, AV.keys_ren σ a x, AV.keysL_ren σ l x]
   constructor
   · rintro (⟨j, h, e⟩ | ⟨j, h, e⟩)
     · exact ⟨j, .inl h, e⟩
     · exact ⟨j, .inr h, e⟩
   · rintro ⟨j, h | h, e⟩
     · exact .inl ⟨j, h, e⟩
     · exact .inr ⟨j, h, e⟩
end
theorem AR.ren {w w' : World} {A A' : Nat → Prop} {β β' : BM} (had : Ad w A w' A') {σ : Nat → Nat} {p : AV} {v : Value} (h : AR w A β p v) (hk : ∀ k ∈ p.keys, β' (σ k) = β k) : AR w' A' β' (p.ren σ) v := by
 induction h with
 | junk v => exact .junk v
 | gh i t v => exact .gh i t v
 | pure p v hp => exact .pure p v (hp.mono had)
 | loc k i j bi hb => exact .loc _ i j bi ((hk k (by simp [AV.keys])).trans hb)
 | locDead k i j v hb => exact .locDead _ i j v ((hk k (by simp [AV.keys])).trans hb)
 | lsl k i n bi cap hb hv hn hc hi hm => exact .lsl _ i n bi cap ((hk k (by simp [AV.keys])).trans hb) hv hn hc hi hm
 | lslV k i bi a hb hi => exact .lslV _ i bi a ((hk k (by simp [AV.keys])).trans hb) hi
 | lslDead k i n v hb => exact .lslDead _ i n v ((hk k (by simp [AV.keys])).trans hb)
 | mp k bi hb => exact .mp _ bi ((hk k (by simp [AV.keys])).trans hb)
 | mpDead k v hb => exact .mpDead _ v ((hk k (by simp [AV.keys])).trans hb)
 | agg cs vs hl _ ih =>
   simp only [AV.ren, AV.renL_eq]
   refine .agg _ vs (by simpa using hl) fun j q hj => ?_
   simp only [List.getElem?_map, Option.map_eq_some_iff] at hj
   obtain ⟨p, hp, rfl⟩ := hj
   exact ih j p hp fun k hkp => hk k (by simp only [AV.keys]; exact keysL_get hp hkp)
 | fn f cs vs hl _ ih =>
   simp only [AV.ren, AV.renL_eq]
   refine .fn f _ vs ⟨by simpa using hl.1, hl.2⟩ fun j q hj => ?_
   simp only [List.getElem?_map, Option.map_eq_some_iff] at hj
   obtain ⟨p, hp, rfl⟩ := hj
   exact ih j p hp fun k hkp => hk k (by simp only [AV.keys]; exact keysL_get hp hkp)
 | bm f g p v he _ ih =>
   simp only [AV.ren, AV.renL_eq]
   exact .bm f g _ v he (ih fun k hkp => hk k (by simp only [AV.keys]; exact keysL_get (l := [p]) (j := 0) rfl hkp))
 | tup cs vs hl _ ih =>
   simp only [AV.ren, AV.renL_eq]
   refine .tup _ vs (by simpa using hl) fun j q hj => ?_
   simp only [List.getElem?_map, Option.map_eq_some_iff] at hj
   obtain ⟨p, hp, rfl⟩ := hj
   exact ih j p hp fun k hkp => hk k (by simp only [AV.keys]; exact keysL_get hp hkp)
theorem AR.unren {w w' : World} {A A' : Nat → Prop} {β β' : BM} (had : Ad w A w' A') {σ : Nat → Nat} {q : AV} {v : Value} (h : AR w A β q v) : ∀ {p : AV}, q = p.ren σ → (∀ k ∈ p.keys, β' k = β (σ k)) → AR w' A' β' p v := by
 induction h with
 | gh i t v =>
   intro p e hk
   cases p <;> simp only [AV.ren] at e <;> first | exact .gh _ _ v | cases e
 | junk v =>
   intro p e hk
   cases p <;> simp only [AV.ren] at e <;> first | exact .junk v | cases e
 | pure p v hp =>
   intro p' e hk
   cases p' <;> simp only [AV.ren] at e <;> first | (injection e with e; subst e; exact .pure _ v (hp.mono had)) | cases e
 | loc k i j bi hb =>
   intro p e hk
   cases p <;> simp only [AV.ren] at e <;> first | (injection e with e1 e2 e3; subst e1 e2 e3; exact .loc _ _ _ bi ((hk _ (by simp [AV.keys])).trans hb)) | cases e
 | locDead k i j v hb =>
   intro p e hk
   cases p <;> simp only [AV.ren] at e <;> first | (injection e with e1 e2 e3; subst e1 e2 e3; exact .locDead _ _ _ v ((hk _ (by simp [AV.keys])).trans hb)) | cases e
 | lsl k i n bi cap hb hv hn hc hi hm =>
   intro p e hk
   cases p <;> simp only [AV.ren] at e <;> first | (injection e with e1 e2 e3; subst e1 e2 e3; exact .lsl _ _ _ bi cap ((hk _ (by simp [AV.keys])).trans hb) hv hn hc hi hm) | cases e
 | lslV k i bi a hb hi =>
   intro p e hk
   cases p <;> simp only [AV.ren] at e <;> first | (injection e with e1 e2 e3; subst e1 e2 e3; exact .lslV _ _ bi a ((hk _ (by simp [AV.keys])).trans hb) hi) | cases e
 | lslDead k i n v hb =>
   intro p e hk
   cases p <;> simp only [AV.ren] at e <;> first | (injection e with e1 e2 e3; subst e1 e2 e3; exact .lslDead _ _ _ v ((hk _ (by simp [AV.keys])).trans hb)) | cases e
 | mp k bi hb =>
   intro p e hk
   cases p <;> simp only [AV.ren] at e <;> first | (injection e with e1; subst e1; exact .mp _ bi ((hk _ (by simp [AV.keys])).trans hb)) | cases e
 | mpDead k v hb =>
   intro p e hk
   cases p <;> simp only [AV.ren] at e <;> first | (injection e with e1; subst e1; exact .mpDead _ v ((hk _ (by simp [AV.keys])).trans hb)) | cases e
 | agg cs vs hl _ ih =>
   intro p e hk
   cases p with
   | agg cs' =>
     simp only [AV.ren] at e
     injection e with e
     subst e
     rw [AV.renL_eq] at hl ih
     refine .agg _ vs (by simpa using hl) fun j q hj => ih j (q.ren σ) (by simp [hj]) rfl fun k hkp => hk k (by simp only [AV.keys]; exact keysL_get hj hkp)
   | _ => exact absurd e (by simp [AV.ren])
 | fn f cs vs hl _ ih =>
   intro p e hk
   cases p with
   | fn f' cs' =>
     simp only [AV.ren] at e
     injection e with e1 e
     subst e1
     subst e
     rw [AV.renL_eq] at hl ih
     refine .fn _ _ vs ⟨by simpa using hl.1, hl.2⟩ fun j q hj => ih j (q.ren σ) (by simp [hj]) rfl fun k hkp => hk k (by simp only [AV.keys]; exact keysL_get hj hkp)
   | _ => exact absurd e (by simp [AV.ren])
 | bm f g p0 v he _ ih =>
   intro p e hk
   cases p with
   | fn f' cs' =>
     simp only [AV.ren] at e
     injection e with e1 e
     subst e1
     rw [AV.renL_eq] at e
     match cs', e with
     | [q], e =>
       simp only [List.map_cons, List.map_nil, List.cons.injEq, and_true] at e
       exact .bm f g q v he (ih e fun k hkp => hk k (by simp only [AV.keys]; exact keysL_get (l := [q]) (j := 0) rfl hkp))
     | [], e => simp at e
     | _ :: _ :: _, e => simp at e
   | _ => exact absurd e (by simp [AV.ren])
 | tup cs vs hl _ ih =>
   intro p e hk
   cases p with
   | tup cs' =>
     simp only [AV.ren] at e
     injection e with e
     subst e
     rw [AV.renL_eq] at hl ih
     refine .tup _ vs (by simpa using hl) fun j q hj => ih j (q.ren σ) (by simp [hj]) rfl fun k hkp => hk k (by simp only [AV.keys]; exact keysL_get hj hkp)
   | _ => exact absurd e (by simp [AV.ren])
theorem AR.weak {w w' : World} {A A' : Nat → Prop} {β β' : BM} (had : Ad w A w' A') {p : AV} {v : Value} (h : AR w A β p v) (hk : ∀ k ∈ p.keys, β' k = β k ∨ β' k = none) : AR w' A' β' p v := by
 induction h with
 | junk v => exact .junk v
 | gh i t v => exact .gh i t v
 | pure p v hp => exact .pure p v (hp.mono had)
 | loc k i j bi hb =>
   rcases hk k (by simp [AV.keys]) with e | e
   · exact .loc k i j bi (e.trans hb)
   · exact .locDead _ _ _ _ e
 | locDead k i j v hb =>
   rcases hk k (by simp [AV.keys]) with e | e
   · exact .locDead k i j v (e.trans hb)
   · exact .locDead _ _ _ _ e
 | lsl k i n bi cap hb hv hn hc hi hm =>
   rcases hk k (by simp [AV.keys]) with e | e
   · exact .lsl k i n bi cap (e.trans hb) hv hn hc hi hm
   · exact .lslDead _ _ _ _ e
 | lslV k i bi a hb hi =>
   rcases hk k (by simp [AV.keys]) with e | e
   · exact .lslV k i bi a (e.trans hb) hi
   · exact .lslDead _ _ _ _ e
 | lslDead k i n v hb =>
   rcases hk k (by simp [AV.keys]) with e | e
   · exact .lslDead k i n v (e.trans hb)
   · exact .lslDead _ _ _ _ e
 | mp k bi hb =>
   rcases hk k (by simp [AV.keys]) with e | e
   · exact .mp k bi (e.trans hb)
   · exact .mpDead _ _ e
 | mpDead k v hb =>
   rcases hk k (by simp [AV.keys]) with e | e
   · exact .mpDead k v (e.trans hb)
   · exact .mpDead _ _ e
 | agg cs vs hl _ ih => exact .agg cs vs hl fun j p hj => ih j p hj fun k hkp => hk k (by simp only [AV.keys]; exact keysL_get hj hkp)
 | fn f cs vs hl _ ih => exact .fn f cs vs hl fun j p hj => ih j p hj fun k hkp => hk k (by simp only [AV.keys]; exact keysL_get hj hkp)
 | bm f g p v he _ ih => exact .bm f g p v he (ih fun k hkp => hk k (by simp only [AV.keys]; exact keysL_get (l := [p]) (j := 0) rfl hkp))
 | tup cs vs hl _ ih => exact .tup cs vs hl fun j p hj => ih j p hj fun k hkp => hk k (by simp only [AV.keys]; exact keysL_get hj hkp)
theorem BOK.weak {w w' : World} {A A' : Nat → Prop} {β β' : BM} (h : Ad w A w' A') {bi : BI} {blk : Blk} (hb : BOK w A β bi blk) (hk : ∀ k ∈ blk.keys, β' k = β k ∨ β' k = none)
   (hs : bi.virt = false → w'.heap[bi.b]? = w.heap[bi.b]?) : BOK w' A' β' bi blk := by
 cases blk with
 | box cells =>
   obtain ⟨h1, cs, e, fz, h2, h3, h4, h5, h6⟩ := hb
   refine ⟨h1, cs, e, fz, (hs h1).trans h2, h3, h4, h5, fun j av hj => ⟨(h6 j av hj).1.weak h fun k hkp => hk k ?_, (h6 j av hj).2⟩⟩
   simp only [Blk.keys]
   exact keysL_get hj hkp
 | row sz rows => exact BOK.mono (β := β) (β' := β') (blk := .row sz rows) h hb (fun y hy => by simp [Blk.keys] at hy) hs
 | mp es => exact BOK.mono (β := β) (β' := β') (blk := .mp es) h hb (fun y hy => by simp [Blk.keys] at hy) hs
theorem BOK.ren {w w' : World} {A A' : Nat → Prop} {β β' : BM} (h : Ad w A w' A') {σ : Nat → Nat} {bi : BI} {blk : Blk} (hb : BOK w A β bi blk) (hk : ∀ k ∈ blk.keys, β' (σ k) = β k)
   (hs : bi.virt = false → w'.heap[bi.b]? = w.heap[bi.b]?) : BOK w' A' β' bi (blk.ren σ) := by
 cases blk with
 | box cells =>
   obtain ⟨h1, cs, e, fz, h2, h3, h4, h5, h6⟩ := hb
   simp only [Blk.ren, AV.renL_eq]
   refine ⟨h1, cs, e, fz, (hs h1).trans h2, h3, by simpa using h4, h5, fun j av hj => ?_⟩
   simp only [List.getElem?_map, Option.map_eq_some_iff] at hj
   obtain ⟨p, hp, rfl⟩ := hj
   exact ⟨(h6 j p hp).1.ren h fun k hkp => hk k (by simp only [Blk.keys]; exact keysL_get hp hkp), (h6 j p hp).2⟩
 | row sz rows => exact BOK.mono (β := β) (β' := β') (blk := .row sz rows) h hb (fun y hy => by simp [Blk.keys] at hy) hs
 | mp es => exact BOK.mono (β := β) (β' := β') (blk := .mp es) h hb (fun y hy => by simp [Blk.keys] at hy) hs
theorem BOK.unren {w w' : World} {A A' : Nat → Prop} {β β' : BM} (h : Ad w A w' A') {σ : Nat → Nat} {bi : BI} {blk : Blk} (hb : BOK w A β bi (blk.ren σ)) (hk : ∀ k ∈ blk.keys, β' k = β (σ k))
   (hs : bi.virt = false → w'.heap[bi.b]? = w.heap[bi.b]?) : BOK w' A' β' bi blk := by
 cases blk with
 | box cells =>
   obtain ⟨h1, cs, e, fz, h2, h3, h4, h5, h6⟩ := hb
   rw [AV.renL_eq] at h4 h6
   refine ⟨h1, cs, e, fz, (hs h1).trans h2, h3, by simpa using h4, h5, fun j av hj => ?_⟩
   have := h6 j (av.ren σ) (by simp [hj])
   exact ⟨this.1.unren h rfl fun k hkp => hk k (by simp only [Blk.keys]; exact keysL_get hj hkp), this.2⟩
 | row sz rows => exact BOK.mono (β := β) (β' := β') (blk := .row sz rows) h hb (fun y hy => by simp [Blk.keys] at hy) hs
 | mp es => exact BOK.mono (β := β) (β' := β') (blk := .mp es) h hb (fun y hy => by simp [Blk.keys] at hy) hs
theorem Rl.Avlt {Γ : Ctx} {s : St} {w : World} {β : BM} {tm : Array Value} (h : Rl Γ s tm w β) : ∀ b, Av Γ.X β b → b < w.heap.size := by
 rintro b (hx | ⟨k, bi, hk, hv, rfl⟩)
 · exact h.Xlt b hx
 · exact h.lt k bi hk hv
def GSpec (P : Program) (f : FuncId) (m : Nat) (s0 : St) (fx : List Nat) (r : Nat) (s1 : St) : Prop :=
 (∀ (vs : Array Value) (w : World), (callFunc f vs).run P w = .ok (.enter f vs) w) ∧
 ∀ (w : World) (X : Nat → Prop) (β0 : BM) (vs : Array Value), Rl (Ctx.plain P m w X β0 fx) s0 vs w β0 →
   Calls P f vs w fun e w' => ∃ us β', e = .returned (if us.size = 1 then us.getD 0 undef else .tuple us) ∧ Rl (Ctx.plain P r w X β0 fx) s1 us w' β'
def XSpec (P : Program) (f : FuncId) (m : Nat) (s0 : St) (v : Value) : Prop :=
 (∀ (vs : Array Value) (w : World), (callFunc f vs).run P w = .ok (.enter f vs) w) ∧
 ∀ (w : World) (X : Nat → Prop) (β0 : BM) (vs : Array Value), Rl (Ctx.plain P m w X β0 []) s0 vs w β0 →
   Calls P f vs w fun e w' => e = .panicked [{ v := v, recovered := false }] ∧ Kp (Ex β0) w w'
def numE : Nat → List AV → List (Nat × AV)
 | _, [] => []
 | i, v :: l => (i, v) :: numE (i + 1) l
theorem numE_get : ∀ {l : List AV} {i t : Nat}, lk (numE i l) t = if i ≤ t then l[t - i]? else none
 | [], i, t => by simp [numE, lk]
 | v :: l, i, t => by
   simp only [numE, lk_cons, numE_get]
   by_cases h : i = t
   · subst h; simp
   · rw [if_neg h]
     by_cases h1 : i ≤ t
     · rw [if_pos (by omega), if_pos h1]
       have : t - i = (t - (i + 1)) + 1 := by omega
       rw [this]; simp
     · rw [if_neg (by omega), if_neg h1]
end Go.Avc
/- A call by a contract with blocks. Conditions: none. -/
namespace Go.Avc
open Go.RowKit
structure Use (Γ : Ctx) (s : St) (U : List Nat) (σ : Nat → Nat) (s0 : St) (fx : List Nat) (s1 s2 : St) : Prop where
 inj : ∀ j ∈ U, ∀ k ∈ U, σ j = σ k → j = k
 u0 : ∀ k ∈ s0.used, k ∈ U
 u1 : ∀ k ∈ s1.used, k ∈ U
 blk0 : ∀ k b, s0.blk k = some b → s.blk (σ k) = some (b.ren σ)
 new : ∀ k ∈ U, s0.blk k = none → σ k ∉ s.used ∧ σ k ∉ Γ.fx
 old : ∀ k ∈ U, (s0.blk k).isSome = true → k ∈ fx ∨ (s1.blk k = none ∧ σ k ∉ Γ.fx)
 fx0 : ∀ k ∈ fx, k ∈ U ∧ (s0.blk k).isSome = true
 get : ∀ t, s2.get t = s.get t
 blkU : ∀ k ∈ U, s2.blk (σ k) = (s1.blk k).map (Blk.ren σ)
 blkO : ∀ j, (∀ k ∈ U, σ k ≠ j) → s2.blk j = s.blk j
 used : ∀ j ∈ s.used, j ∈ s2.used
 usedU : ∀ k ∈ U, σ k ∈ s2.used
section
variable {Γ : Ctx} {s : St} {tm : Array Value} {w : World} {β : BM} {U : List Nat} {σ : Nat → Nat} {s0 s1 s2 : St} {fx : List Nat}
def b0 (β : BM) (U : List Nat) (σ : Nat → Nat) (s0 : St) : BM := fun k => if k ∈ U ∧ (s0.blk k).isSome = true then β (σ k) else none
def x0 (Γ : Ctx) (β : BM) (U : List Nat) (σ : Nat → Nat) (s0 : St) (b : Nat) : Prop := Av Γ.X β b ∧ ¬ Ex (b0 β U σ s0) b
open Classical in
noncomputable def b2 (β β1 : BM) (U : List Nat) (σ : Nat → Nat) : BM := fun j => if h : ∃ k ∈ U, σ k = j then β1 (Classical.choose h) else β j
theorem b0_some {k : Nat} {bi : BI} (h : b0 β U σ s0 k = some bi) : k ∈ U ∧ (s0.blk k).isSome = true ∧ β (σ k) = some bi := by
 unfold b0 at h
 split at h
 · rename_i h1; exact ⟨h1.1, h1.2, h⟩
 · cases h
theorem b2_in (hi : ∀ j ∈ U, ∀ k ∈ U, σ j = σ k → j = k) {β1 : BM} {k : Nat} (hk : k ∈ U) : b2 β β1 U σ (σ k) = β1 k := by
 have h : ∃ j ∈ U, σ j = σ k := ⟨k, hk, rfl⟩
 unfold b2
 rw [dif_pos h]
 have hc := Classical.choose_spec h
 rw [hi _ hc.1 k hk hc.2]
theorem b2_out {β1 : BM} {j : Nat} (hj : ∀ k ∈ U, σ k ≠ j) : b2 β β1 U σ j = β j := by
 unfold b2
 rw [dif_neg]
 rintro ⟨k, hk, e⟩
 exact hj k hk e
theorem Rl.enterG (h : Rl Γ s tm w β) (hu : Use Γ s U σ s0 fx s1 s2) {vs : Array Value} (harg : ∀ t, AR w (Av Γ.X β) β ((s0.get t).ren σ) (vs.getD t undef)) (hk0 : ∀ t, ∀ k ∈ (s0.get t).keys, k ∈ s0.used)
   (hk1 : ∀ k b, s0.blk k = some b → k ∈ s0.used ∧ ∀ k' ∈ b.keys, k' ∈ s0.used) : Rl (Ctx.plain Γ.P vs.size w (x0 Γ β U σ s0) (b0 β U σ s0) fx) s0 vs w (b0 β U σ s0) := by
 have hA : ∀ b, Av (x0 Γ β U σ s0) (b0 β U σ s0) b → Av Γ.X β b := by
   rintro b (⟨hx, _⟩ | ⟨k, bi, hk, hv, rfl⟩)
   · exact hx
   · exact .inr ⟨σ k, bi, (b0_some hk).2.2, hv, rfl⟩
 have had : Ad w (Av Γ.X β) w (Av (x0 Γ β U σ s0) (b0 β U σ s0)) := ⟨Nat.le_refl _, fun b _ hn => ⟨rfl, fun h' => hn (hA b h')⟩⟩
 have hold : ∀ k, (s0.blk k).isSome = true → b0 β U σ s0 k = β (σ k) := fun k hk => by
   obtain ⟨b, hb⟩ := Option.isSome_iff_exists.1 hk
   unfold b0
   rw [if_pos ⟨hu.u0 k (hk1 k b hb).1, hk⟩]
 -- a name in use whose block is not there is dead for both
 have hdead : ∀ k ∈ s0.used, b0 β U σ s0 k = β (σ k) := fun k hk => by
   cases hb : s0.blk k with
   | some b => exact hold k (by rw [hb]; rfl)
   | none =>
     have h1 := h.none_of (hu.new k (hu.u0 k hk) hb).1
     unfold b0
     rw [if_neg (by rw [hb]; simp), h1]
 refine
 { size := rfl
   slots := fun t => (harg t).unren had rfl fun k hk => hdead k (hk0 t k hk)
   blks := fun k => ?_
   inj := fun k k' bi bi' hk hk' hv hv' hb => ?_
   lt := fun k bi hk hv => h.lt _ bi (b0_some hk).2.2 hv
   notX := fun k bi hk hv => fun hx => hx.2 ⟨k, bi, hk, hv, rfl⟩
   own := fun k bi hk hv => .inr ⟨k, bi, hk, hv, rfl⟩
   fixd := fun k _ => rfl
   used1 := hk0
   used2 := fun k b hb => hk1 k b hb
   keep := Kp.refl _ _
   Xlt := fun b hb => h.Avlt b hb.1
   glob := h.glob.mono had }
 · cases hb : s0.blk k with
   | none =>
     have : b0 β U σ s0 k = none := by unfold b0; rw [if_neg (by rw [hb]; simp)]
     rw [this]; trivial
   | some b =>
     rw [hold k (by rw [hb]; rfl)]
     have hs := hu.blk0 k b hb
     obtain ⟨bi, hβ, hbk⟩ := h.live hs
     rw [hβ]
     exact hbk.unren had (fun k' hk' => hdead k' ((hk1 k b hb).2 k' hk')) fun _ => rfl
 · obtain ⟨p1, _, p3⟩ := b0_some hk
   obtain ⟨q1, _, q3⟩ := b0_some hk'
   exact hu.inj k p1 k' q1 (h.inj _ _ bi bi' p3 q3 hv hv' hb)
theorem Rl.leaveG (h : Rl Γ s tm w β) (hu : Use Γ s U σ s0 fx s1 s2) {w' : World} {us : Array Value} {r : Nat} {β1 : BM} (h1 : Rl (Ctx.plain Γ.P r w (x0 Γ β U σ s0) (b0 β U σ s0) fx) s1 us w' β1) :
   ∃ β2, Rl Γ s2 tm w' β2 ∧ ∀ t, AR w' (Av Γ.X β2) β2 ((s1.get t).ren σ) (us.getD t undef) ∧ ∀ k ∈ ((s1.get t).ren σ).keys, k ∈ s2.used := by
 have e1 : ∀ k ∈ U, b2 β β1 U σ (σ k) = β1 k := fun k hk => b2_in hu.inj hk
 have e2 : ∀ j, (∀ k ∈ U, σ k ≠ j) → b2 β β1 U σ j = β j := fun j hj => b2_out hj
 have hU1 : ∀ k bi, β1 k = some bi → k ∈ U := fun k bi hk => by
   have hb := h1.blks k
   rw [hk] at hb
   cases hs : s1.blk k with
   | none => rw [hs] at hb; exact hb.elim
   | some b => exact hu.u1 k (h1.used2 k b hs).1
 have split : ∀ j, (∃ k ∈ U, σ k = j) ∨ (∀ k ∈ U, σ k ≠ j) := fun j => by
   by_cases e : ∃ k ∈ U, σ k = j
   · exact .inl e
   · exact .inr fun k hk e' => e ⟨k, hk, e'⟩
 have hsz := h1.keep.size
 -- a block of the caller's that is not handed over
 have hother : ∀ j bj, (∀ k ∈ U, σ k ≠ j) → β j = some bj → bj.virt = false → ¬ Ex (b0 β U σ s0) bj.b := fun j bj hj hb hv => by
   rintro ⟨k, bi, hk, hvk, e⟩
   obtain ⟨p1, _, p3⟩ := b0_some hk
   exact hj k p1 (h.inj _ _ bi bj p3 hb hvk hv e)
 have hA2 : ∀ b, Av Γ.X (b2 β β1 U σ) b → Av (x0 Γ β U σ s0) β1 b := by
   rintro b (hx | ⟨j, bj, hj, hv, rfl⟩)
   · refine .inl ⟨.inl hx, ?_⟩
     rintro ⟨k, bi, hk, hvk, rfl⟩
     exact h.notX _ bi (b0_some hk).2.2 hvk hx
   · rcases split j with ⟨k, hk, rfl⟩ | hj'
     · rw [e1 k hk] at hj
       exact .inr ⟨k, bj, hj, hv, rfl⟩
     · rw [e2 j hj'] at hj
       exact .inl ⟨.inr ⟨j, bj, hj, hv, rfl⟩, hother j bj hj' hj hv⟩
 have hEx : ∀ b, Ex (b0 β U σ s0) b → Av Γ.X β b := by
   rintro b ⟨k, bi, hk, hv, rfl⟩
   exact .inr ⟨σ k, bi, (b0_some hk).2.2, hv, rfl⟩
 have had : Ad w (Av Γ.X β) w' (Av Γ.X (b2 β β1 U σ)) := ⟨hsz, fun b hb hn => ⟨h1.keep.block b hb fun he => hn (hEx b he), fun h' => by
   rcases hA2 b h' with ⟨hx, _⟩ | ⟨k, bi, hk, hv, rfl⟩
   · exact hn hx
   · rcases h1.own k bi hk hv with ho | ho
     · have : w.heap.size ≤ bi.b := ho
       omega
     · exact hn (hEx _ ho)⟩⟩
 have had2 : Ad w' (Av (x0 Γ β U σ s0) β1) w' (Av Γ.X (b2 β β1 U σ)) := ⟨Nat.le_refl _, fun b _ hn => ⟨rfl, fun h' => hn (hA2 b h')⟩⟩
 -- the caller's names: as they were, or dead
 have hkeys : ∀ j ∈ s.used, b2 β β1 U σ j = β j ∨ b2 β β1 U σ j = none := fun j hj => by
   rcases split j with ⟨k, hk, rfl⟩ | hj'
   · rw [e1 k hk]
     cases hb : s0.blk k with
     | none => exact absurd hj (hu.new k hk hb).1
     | some b =>
       rcases hu.old k hk (by rw [hb]; rfl) with hf | ⟨hn, _⟩
       · left
         have hfd := h1.fixd k hf
         have : b0 β U σ s0 k = β (σ k) := by unfold b0; rw [if_pos ⟨hk, by rw [hb]; rfl⟩]
         rw [hfd]; exact this
       · right
         cases hβ : β1 k with
         | none => rfl
         | some bi =>
           have := h1.blks k
           rw [hβ, hn] at this
           exact this.elim
   · exact .inl (e2 j hj')
 have hren : ∀ k ∈ s1.used, b2 β β1 U σ (σ k) = β1 k := fun k hk => e1 k (hu.u1 k hk)
 refine ⟨b2 β β1 U σ, ?_, fun t => ⟨(h1.slots t).ren had2 fun k hk => hren k (h1.used1 t k hk), fun k hk => ?_⟩⟩
 · refine
   { size := h.size
     slots := fun t => by rw [hu.get]; exact (h.slots t).weak had fun k hk => hkeys k (h.used1 t k hk)
     blks := fun j => ?_
     inj := fun j j' bj bj' hj hj' hv hv' hb => ?_
     lt := fun j bj hj hv => ?_
     notX := fun j bj hj hv => ?_
     own := fun j bj hj hv => ?_
     fixd := fun j hj => ?_
     used1 := fun t k hk => by rw [hu.get] at hk; exact hu.used k (h.used1 t k hk)
     used2 := fun j b hj => ?_
     keep := ⟨h1.keep.os.trans h.keep.os, h1.keep.tape.trans h.keep.tape, h1.keep.output.trans h.keep.output, Nat.le_trans h.keep.size hsz, fun b hb hE => (h1.keep.block b (Nat.lt_of_lt_of_le hb h.keep.size) ?_).trans (h.keep.block b hb hE)⟩
     Xlt := fun b hb => Nat.lt_of_lt_of_le (h.Xlt b hb) hsz
     glob := h.glob.mono had }
   · rcases split j with ⟨k, hk, rfl⟩ | hj'
     · rw [e1 k hk, hu.blkU k hk]
       have hb := h1.blks k
       cases hs : s1.blk k with
       | none =>
         rw [hs] at hb
         cases hβ : β1 k with
         | none => trivial
         | some bi => rw [hβ] at hb; exact hb.elim
       | some b =>
         rw [hs] at hb
         cases hβ : β1 k with
         | none => rw [hβ] at hb; exact hb.elim
         | some bi =>
           rw [hβ] at hb
           exact BOK.ren had2 hb (fun k' hk' => hren k' ((h1.used2 k b hs).2 k' hk')) fun _ => rfl
     · rw [e2 j hj', hu.blkO j hj']
       have hb := h.blks j
       cases hs : s.blk j with
       | none =>
         rw [hs] at hb
         cases hβ : β j with
         | none => trivial
         | some bi => rw [hβ] at hb; exact hb.elim
       | some b =>
         rw [hs] at hb
         cases hβ : β j with
         | none => rw [hβ] at hb; exact hb.elim
         | some bi =>
           rw [hβ] at hb
           exact BOK.weak had hb (fun k' hk' => hkeys k' ((h.used2 j b hs).2 k' hk')) fun hv => h1.keep.block _ (h.lt j bi hβ hv) (hother j bi hj' hβ hv)
   · -- two blocks are not one
     have cross : ∀ k ∈ U, ∀ j bi bj, (∀ k ∈ U, σ k ≠ j) → β1 k = some bi → β j = some bj → bi.virt = false → bj.virt = false → bi.b ≠ bj.b := fun k hk j bi bj hj' hb hbj hv hvj e => by
       rcases h1.own k bi hb hv with ho | ho
       · have h2 : w.heap.size ≤ bi.b := ho
         have := h.lt j bj hbj hvj
         omega
       · rw [e] at ho
         exact hother j bj hj' hbj hvj ho
     rcases split j with ⟨k, hk, rfl⟩ | hj0
     · rcases split j' with ⟨k', hk', rfl⟩ | hj0'
       · rw [e1 k hk] at hj
         rw [e1 k' hk'] at hj'
         rw [h1.inj k k' bj bj' hj hj' hv hv' hb]
       · rw [e1 k hk] at hj
         rw [e2 j' hj0'] at hj'
         exact absurd hb (cross k hk j' bj bj' hj0' hj hj' hv hv')
     · rcases split j' with ⟨k', hk', rfl⟩ | hj0'
       · rw [e2 j hj0] at hj
         rw [e1 k' hk'] at hj'
         exact absurd hb.symm (cross k' hk' j bj' bj hj0 hj' hj hv' hv)
       · rw [e2 j hj0] at hj
         rw [e2 j' hj0'] at hj'
         exact h.inj j j' bj bj' hj hj' hv hv' hb
   · rcases split j with ⟨k, hk, rfl⟩ | hj0
     · rw [e1 k hk] at hj
       exact h1.lt k bj hj hv
     · rw [e2 j hj0] at hj
       exact Nat.lt_of_lt_of_le (h.lt j bj hj hv) hsz
   · rcases split j with ⟨k, hk, rfl⟩ | hj0
     · rw [e1 k hk] at hj
       intro hx
       refine h1.notX k bj hj hv ⟨.inl hx, ?_⟩
       rintro ⟨k', bi, hk', hvk, e⟩
       have := h.notX _ bi (b0_some hk').2.2 hvk
       rw [e] at this
       exact this hx
     · rw [e2 j hj0] at hj
       exact h.notX j bj hj hv
   · rcases split j with ⟨k, hk, rfl⟩ | hj0
     · rw [e1 k hk] at hj
       rcases h1.own k bj hj hv with ho | ⟨k', bi, hk', hvk, e⟩
       · have h2 : w.heap.size ≤ bj.b := ho
         exact .inl (Nat.le_trans h.keep.size h2)
       · rw [← e]
         exact h.own _ bi (b0_some hk').2.2 hvk
     · rw [e2 j hj0] at hj
       exact h.own j bj hj hv
   · rcases split j with ⟨k, hk, rfl⟩ | hj0
     · cases hb : s0.blk k with
       | none => exact absurd hj (hu.new k hk hb).2
       | some b =>
         rcases hu.old k hk (by rw [hb]; rfl) with hf | ⟨_, hn⟩
         · rw [e1 k hk]
           have hfd := h1.fixd k hf
           have : b0 β U σ s0 k = β (σ k) := by unfold b0; rw [if_pos ⟨hk, by rw [hb]; rfl⟩]
           exact (hfd.trans this).trans (h.fixd _ hj)
         · exact absurd hj hn
     · rw [e2 j hj0]
       exact h.fixd j hj
   · rcases split j with ⟨k, hk, rfl⟩ | hj0
     · rw [hu.blkU k hk] at hj
       simp only [Option.map_eq_some_iff] at hj
       obtain ⟨b', hb', rfl⟩ := hj
       refine ⟨hu.usedU k hk, fun x hx => ?_⟩
       cases b' with
       | row sz rows => simp [Blk.ren, Blk.keys] at hx
       | mp es => simp [Blk.ren, Blk.keys] at hx
       | box cs =>
         simp only [Blk.ren, Blk.keys] at hx
         obtain ⟨y, hy, rfl⟩ := (AV.keysL_ren σ cs x).1 hx
         exact hu.usedU y (hu.u1 y ((h1.used2 k _ hb').2 y hy))
     · rw [hu.blkO j hj0] at hj
       exact ⟨hu.used j (h.used2 j b hj).1, fun x hx => hu.used x ((h.used2 j b hj).2 x hx)⟩
   · rintro ⟨k, bi, hk, hv, rfl⟩
     rcases h.own _ bi (b0_some hk).2.2 hv with ho | ho
     · omega
     · exact hE ho
 · obtain ⟨y, hy, rfl⟩ := (AV.keys_ren σ _ k).1 hk
   exact hu.usedU y (hu.u1 y (h1.used1 t y hy))
end
/-! ### By computation -/
def ArgOK (x y : AV) : Prop := x = y ∨ ∃ p q, toPV (fun _ => none) x = some p ∧ y = .pure q ∧ ∀ w A v, PR w A p v → PR w A q v
def ArgsOK : List AV → List AV → Prop
 | [], [] => True
 | x :: l, y :: m => ArgOK x y ∧ ArgsOK l m
 | _, _ => False
def sig (M : List (Nat × Nat)) (k : Nat) : Nat := (lk M k).getD 0
def blkEqs (s : St) (σ : Nat → Nat) (s0 : St) : List (Nat × Nat) → Prop
 | [] => True
 | (k, ck) :: l => match s0.blk k with
   | some b => s.blk ck = some (b.ren σ) ∧ blkEqs s σ s0 l
   | none => blkEqs s σ s0 l
def gAct (σ : Nat → Nat) (s0 s1 : St) (k ck : Nat) : BAct := match s1.blk k with
 | some b => match s0.blk k with
   | some _ => .set ck (b.ren σ)
   | none => .new ck (b.ren σ)
 | none => .kill ck
def gActs (σ : Nat → Nat) (s0 s1 : St) : List (Nat × Nat) → List BAct
 | [] => []
 | (k, ck) :: l => gAct σ s0 s1 k ck :: gActs σ s0 s1 l
def nodupB : List Nat → Bool
 | [] => true
 | k :: l => bif freshIn k l then nodupB l else false
def inB : List Nat → List Nat → Bool
 | [], _ => true
 | k :: l, m => bif freshIn k m then false else inB l m
def pairB (used fx gfx : List Nat) (s0 s1 : St) (k ck : Nat) : Bool := match s0.blk k with
 | none => bif freshIn ck used then (bif freshIn ck fx then (s1.blk k).isSome else false) else false
 | some _ => match s1.blk k with
   | none => bif freshIn k gfx then freshIn ck fx else true
   | some _ => bif freshIn k gfx then false else true
def pairsB (used fx gfx : List Nat) (s0 s1 : St) : List (Nat × Nat) → Bool
 | [] => true
 | (k, ck) :: l => bif pairB used fx gfx s0 s1 k ck then pairsB used fx gfx s0 s1 l else false
def keysEnv : List (Nat × AV) → List Nat
 | [] => []
 | (_, v) :: l => v.keys ++ keysEnv l
def keysBlk : List (Nat × Option Blk) → List Nat
 | [] => []
 | (k, some b) :: l => k :: b.keys ++ keysBlk l
 | (_, none) :: l => keysBlk l
def fxB (s0 : St) : List Nat → Bool
 | [] => true
 | k :: l => bif (s0.blk k).isSome then fxB s0 l else false
def useB (s : St) (fx : List Nat) (M : List (Nat × Nat)) (s0 : St) (gfx : List Nat) (s1 : St) : Bool :=
 nodupB (M.map (·.1)) && nodupB (M.map (·.2)) && inB s0.used (M.map (·.1)) && inB s1.used (M.map (·.1)) && inB (keysEnv s0.env) s0.used && inB (keysBlk s0.blks) s0.used && fxB s0 gfx && pairsB s.used fx gfx s0 s1 M
theorem freshIn_no {d : Nat} : ∀ {l : List Nat}, freshIn d l = false → d ∈ l
 | [], h => by cases h
 | k :: l, h => by
   simp only [freshIn, beq_eq_decide] at h
   by_cases e : d = k
   · subst e; exact List.mem_cons_self
   · simp only [e, decide_false, cond_false] at h
     exact List.mem_cons_of_mem _ (freshIn_no h)
theorem inB_spec : ∀ {l m : List Nat}, inB l m = true → ∀ k ∈ l, k ∈ m
 | [], _, _, k, hk => by cases hk
 | a :: l, m, h, k, hk => by
   simp only [inB] at h
   cases ha : freshIn a m with
   | true => rw [ha] at h; cases h
   | false =>
     rw [ha] at h
     rcases List.mem_cons.1 hk with rfl | hk
     · exact freshIn_no ha
     · exact inB_spec (by simpa using h) k hk
theorem nodupB_spec : ∀ {l : List Nat}, nodupB l = true → l.Nodup
 | [], _ => .nil
 | a :: l, h => by
   simp only [nodupB] at h
   cases ha : freshIn a l with
   | false => rw [ha] at h; cases h
   | true =>
     rw [ha] at h
     exact List.nodup_cons.2 ⟨freshIn_spec ha, nodupB_spec (by simpa using h)⟩
theorem pairsB_spec {used fx gfx : List Nat} {s0 s1 : St} : ∀ {l : List (Nat × Nat)}, pairsB used fx gfx s0 s1 l = true → ∀ p ∈ l, pairB used fx gfx s0 s1 p.1 p.2 = true
 | [], _, p, hp => by cases hp
 | (k, ck) :: l, h, p, hp => by
   simp only [pairsB] at h
   cases ha : pairB used fx gfx s0 s1 k ck with
   | false => rw [ha] at h; cases h
   | true =>
     rw [ha] at h
     rcases List.mem_cons.1 hp with rfl | hp
     · exact ha
     · exact pairsB_spec (by simpa using h) p hp
theorem fxB_spec {s0 : St} : ∀ {l : List Nat}, fxB s0 l = true → ∀ k ∈ l, (s0.blk k).isSome = true
 | [], _, k, hk => by cases hk
 | a :: l, h, k, hk => by
   simp only [fxB] at h
   cases ha : (s0.blk a).isSome with
   | false => rw [ha] at h; cases h
   | true =>
     rw [ha] at h
     rcases List.mem_cons.1 hk with rfl | hk
     · exact ha
     · exact fxB_spec (by simpa using h) k hk
theorem lk_mem {α : Type} : ∀ {l : List (Nat × α)} {k : Nat} {v : α}, lk l k = some v → (k, v) ∈ l
 | [], k, v, h => by cases h
 | (d, x) :: l, k, v, h => by
   rw [lk_cons] at h
   split at h
   · rename_i e; subst e; cases h; exact List.mem_cons_self
   · exact List.mem_cons_of_mem _ (lk_mem h)
theorem lk_of_nodup {α : Type} : ∀ {l : List (Nat × α)} {k : Nat} {v : α}, (l.map (·.1)).Nodup → (k, v) ∈ l → lk l k = some v
 | [], k, v, _, h => by cases h
 | (d, x) :: l, k, v, hn, h => by
   rw [lk_cons]
   simp only [List.map_cons, List.nodup_cons] at hn
   rcases List.mem_cons.1 h with e | h
   · cases e; rw [if_pos rfl]
   · have : d ≠ k := fun e => hn.1 (e ▸ List.mem_map.2 ⟨(k, v), h, rfl⟩)
     rw [if_neg this]
     exact lk_of_nodup hn.2 h
theorem keysEnv_mem {l : List (Nat × AV)} {t : Nat} {v : AV} (h : (t, v) ∈ l) {k : Nat} (hk : k ∈ v.keys) : k ∈ keysEnv l := by
 induction l with
 | nil => cases h
 | cons p l ih =>
   obtain ⟨d, x⟩ := p
   simp only [keysEnv, List.mem_append]
   rcases List.mem_cons.1 h with e | h
   · cases e; exact .inl hk
   · exact .inr (ih h)
theorem keysBlk_mem {l : List (Nat × Option Blk)} {t : Nat} {b : Blk} (h : (t, some b) ∈ l) : t ∈ keysBlk l ∧ ∀ k ∈ b.keys, k ∈ keysBlk l := by
 induction l with
 | nil => cases h
 | cons p l ih =>
   obtain ⟨d, x⟩ := p
   rcases List.mem_cons.1 h with e | h
   · cases e
     exact ⟨List.mem_cons_self, fun k hk => List.mem_cons_of_mem _ (List.mem_append_left _ hk)⟩
   · obtain ⟨h1, h2⟩ := ih h
     cases x with
     | none => exact ⟨h1, h2⟩
     | some x =>
       simp only [keysBlk, List.cons_append, List.mem_cons, List.mem_append]
       exact ⟨.inr (.inr h1), fun k hk => .inr (.inr (h2 k hk))⟩
theorem gAct_spec (σ : Nat → Nat) (s0 s1 : St) (k ck : Nat) (s : St) : (∀ t, (s.act (gAct σ s0 s1 k ck)).get t = s.get t) ∧ (∀ j, (s.act (gAct σ s0 s1 k ck)).blk j = if ck = j then (s1.blk k).map (Blk.ren σ) else s.blk j) ∧
   (∀ j ∈ s.used, j ∈ (s.act (gAct σ s0 s1 k ck)).used) ∧ (s0.blk k = none → (s1.blk k).isSome = true → ck ∈ (s.act (gAct σ s0 s1 k ck)).used) := by
 unfold gAct
 cases h1 : s1.blk k with
 | none => exact ⟨fun _ => rfl, fun j => by rw [Option.map_none]; exact St.blk_kill s ck j, fun j hj => hj, fun _ h => by cases h⟩
 | some b =>
   cases h0 : s0.blk k with
   | none => exact ⟨fun _ => rfl, fun j => by rw [Option.map_some]; exact St.blk_new s ck _ j, fun j hj => List.mem_cons_of_mem _ hj, fun _ _ => List.mem_cons_self⟩
   | some b' => exact ⟨fun _ => rfl, fun j => by rw [Option.map_some]; exact St.blk_set s ck _ j, fun j hj => hj, fun h => by cases h⟩
theorem gActs_spec (σ : Nat → Nat) (s0 s1 : St) : ∀ {M : List (Nat × Nat)} (s : St), (M.map (·.2)).Nodup → (∀ t, (s.acts (gActs σ s0 s1 M)).get t = s.get t) ∧ (∀ p ∈ M, (s.acts (gActs σ s0 s1 M)).blk p.2 = (s1.blk p.1).map (Blk.ren σ)) ∧
   (∀ j, (∀ p ∈ M, p.2 ≠ j) → (s.acts (gActs σ s0 s1 M)).blk j = s.blk j) ∧ (∀ j ∈ s.used, j ∈ (s.acts (gActs σ s0 s1 M)).used) ∧ (∀ p ∈ M, s0.blk p.1 = none → (s1.blk p.1).isSome = true → p.2 ∈ (s.acts (gActs σ s0 s1 M)).used)
 | [], s, _ => ⟨fun _ => rfl, fun p hp => (by cases hp), fun _ _ => rfl, fun j hj => hj, fun p hp => (by cases hp)⟩
 | (k, ck) :: l, s, hn => by
   simp only [List.map_cons, List.nodup_cons] at hn
   obtain ⟨a1, a2, a3, a4⟩ := gAct_spec σ s0 s1 k ck s
   obtain ⟨b1, b2, b3, b4, b5⟩ := gActs_spec σ s0 s1 (M := l) (s.act (gAct σ s0 s1 k ck)) hn.2
   have e : s.acts (gActs σ s0 s1 ((k, ck) :: l)) = (s.act (gAct σ s0 s1 k ck)).acts (gActs σ s0 s1 l) := rfl
   rw [e]
   refine ⟨fun t => (b1 t).trans (a1 t), fun p hp => ?_, fun j hj => ?_, fun j hj => b4 j (a3 j hj), fun p hp h0 h1 => ?_⟩
   · rcases List.mem_cons.1 hp with rfl | hp
     · rw [b3 ck fun p hp e => hn.1 (e ▸ List.mem_map.2 ⟨p, hp, rfl⟩), a2, if_pos rfl]
     · exact b2 p hp
   · rw [b3 j fun p hp => hj p (List.mem_cons_of_mem _ hp), a2, if_neg (hj (k, ck) List.mem_cons_self)]
   · rcases List.mem_cons.1 hp with rfl | hp
     · exact b4 _ (a4 h0 h1)
     · exact b5 p hp h0 h1
theorem blkEqs_spec {s : St} {σ : Nat → Nat} {s0 : St} : ∀ {M : List (Nat × Nat)}, blkEqs s σ s0 M → ∀ p ∈ M, ∀ b, s0.blk p.1 = some b → s.blk p.2 = some (b.ren σ)
 | [], _, p, hp, b, hb => by cases hp
 | (k, ck) :: l, h, p, hp, b, hb => by
   simp only [blkEqs] at h
   cases hk : s0.blk k with
   | none =>
     rw [hk] at h
     rcases List.mem_cons.1 hp with rfl | hp
     · rw [hk] at hb; cases hb
     · exact blkEqs_spec h p hp b hb
   | some b' =>
     rw [hk] at h
     rcases List.mem_cons.1 hp with rfl | hp
     · rw [hk] at hb; cases hb; exact h.1
     · exact blkEqs_spec h.2 p hp b hb
theorem Use.of {Γ : Ctx} {s : St} {tm : Array Value} {w : World} {β : BM} (h : Rl Γ s tm w β) {M : List (Nat × Nat)} {s0 s1 : St} {gfx : List Nat} (hb : useB s Γ.fx M s0 gfx s1 = true) (he : blkEqs s (sig M) s0 M) :
   Use Γ s (M.map (·.1)) (sig M) s0 gfx s1 (s.acts (gActs (sig M) s0 s1 M)) ∧ (∀ t, ∀ k ∈ (s0.get t).keys, k ∈ s0.used) ∧ (∀ k b, s0.blk k = some b → k ∈ s0.used ∧ ∀ k' ∈ b.keys, k' ∈ s0.used) := by
 unfold useB at hb
 simp only [Bool.and_eq_true] at hb
 obtain ⟨⟨⟨⟨⟨⟨⟨n1, n2⟩, u0⟩, u1⟩, ke⟩, kb⟩, hfx⟩, hp⟩ := hb
 have n1 := nodupB_spec n1
 have n2 := nodupB_spec n2
 have hs : ∀ p ∈ M, sig M p.1 = p.2 := fun p hp => by unfold sig; rw [lk_of_nodup n1 hp]; rfl
 have hm : ∀ k ∈ M.map (·.1), ∃ p ∈ M, p.1 = k := fun k hk => by simpa using List.mem_map.1 hk
 obtain ⟨g1, g2, g3, g4, g5⟩ := gActs_spec (sig M) s0 s1 (M := M) s n2
 have hblkw : ∀ k b, s0.blk k = some b → k ∈ s0.used ∧ ∀ k' ∈ b.keys, k' ∈ s0.used := fun k b hk => by
   unfold St.blk at hk
   cases hl : lk s0.blks k with
   | none => rw [hl] at hk; cases hk
   | some x =>
     rw [hl] at hk
     simp only [Option.join_some] at hk
     subst hk
     obtain ⟨q1, q2⟩ := keysBlk_mem (lk_mem hl)
     exact ⟨inB_spec kb k q1, fun k' hk' => inB_spec kb k' (q2 k' hk')⟩
 have hpr := pairsB_spec hp
 refine ⟨?_, fun t k hk => ?_, hblkw⟩
 · refine
   { inj := fun j hj k hk e => ?_
     u0 := inB_spec u0
     u1 := inB_spec u1
     blk0 := fun k b hk => ?_
     new := fun k hk hn => ?_
     old := fun k hk hn => ?_
     fx0 := fun k hk => ?_
     get := g1
     blkU := fun k hk => ?_
     blkO := fun j hj => g3 j fun p hp e => hj p.1 (List.mem_map.2 ⟨p, hp, rfl⟩) ((hs p hp).trans e)
     used := g4
     usedU := fun k hk => ?_ }
   · obtain ⟨p, hp, rfl⟩ := hm j hj
     obtain ⟨q, hq, rfl⟩ := hm k hk
     rw [hs p hp, hs q hq] at e
     have inj2 : ∀ {l : List (Nat × Nat)}, (l.map (·.2)).Nodup → ∀ p ∈ l, ∀ q ∈ l, p.2 = q.2 → p = q := by
       intro l
       induction l with
       | nil => intro _ p hp; cases hp
       | cons x l ih =>
         intro hn p hp q hq e
         simp only [List.map_cons, List.nodup_cons] at hn
         rcases List.mem_cons.1 hp with e1 | hp1
         · rcases List.mem_cons.1 hq with e2 | hq1
           · rw [e1, e2]
           · exact absurd (List.mem_map.2 ⟨q, hq1, by rw [← e, e1]⟩) hn.1
         · rcases List.mem_cons.1 hq with e2 | hq1
           · exact absurd (List.mem_map.2 ⟨p, hp1, by rw [e, e2]⟩) hn.1
           · exact ih hn.2 p hp1 q hq1 e
     rw [inj2 n2 p hp q hq e]
   · obtain ⟨p, hp, rfl⟩ := hm k (inB_spec u0 k (hblkw k b hk).1)
     rw [hs p hp]
     exact blkEqs_spec he p hp b hk
   · obtain ⟨p, hp, rfl⟩ := hm k hk
     rw [hs p hp]
     have := hpr p hp
     unfold pairB at this
     rw [hn] at this
     simp only at this
     cases h1 : freshIn p.2 s.used with
     | false => rw [h1] at this; cases this
     | true =>
       rw [h1] at this
       cases h2 : freshIn p.2 Γ.fx with
       | false => rw [h2] at this; cases this
       | true => exact ⟨freshIn_spec h1, freshIn_spec h2⟩
   · obtain ⟨p, hp, rfl⟩ := hm k hk
     rw [hs p hp]
     have := hpr p hp
     unfold pairB at this
     obtain ⟨b, hb⟩ := Option.isSome_iff_exists.1 hn
     rw [hb] at this
     simp only at this
     cases h1 : s1.blk p.1 with
     | none =>
       rw [h1] at this
       simp only at this
       cases h2 : freshIn p.1 gfx with
       | false => exact .inl (freshIn_no h2)
       | true => rw [h2] at this; exact .inr ⟨rfl, freshIn_spec (by simpa using this)⟩
     | some b1 =>
       rw [h1] at this
       simp only at this
       cases h2 : freshIn p.1 gfx with
       | false => exact .inl (freshIn_no h2)
       | true => rw [h2] at this; cases this
   · have h1 := fxB_spec hfx k hk
     obtain ⟨b, hb⟩ := Option.isSome_iff_exists.1 h1
     exact ⟨inB_spec u0 k (hblkw k b hb).1, h1⟩
   · obtain ⟨p, hp, rfl⟩ := hm k hk
     rw [hs p hp]
     exact g2 p hp
   · obtain ⟨p, hp, rfl⟩ := hm k hk
     rw [hs p hp]
     cases hb : s0.blk p.1 with
     | some b => exact g4 _ (h.used2 _ _ (blkEqs_spec he p hp b hb)).1
     | none =>
       refine g5 p hp hb ?_
       have := hpr p hp
       unfold pairB at this
       rw [hb] at this
       simp only at this
       cases h1 : freshIn p.2 s.used with
       | false => rw [h1] at this; cases this
       | true =>
         rw [h1] at this
         cases h2 : freshIn p.2 Γ.fx with
         | false => rw [h2] at this; cases this
         | true => rw [h2] at this; simpa using this
 · unfold St.get at hk
   cases hl : lk s0.env t with
   | none => rw [hl] at hk; simp [AV.keys] at hk
   | some v =>
     rw [hl] at hk
     exact inB_spec ke k (keysEnv_mem (lk_mem hl) hk)
theorem ArgOK.ar {w : World} {A : Nat → Prop} {β : BM} {x y : AV} {v : Value} (h : ArgOK x y) (hp : AR w A β x v) : AR w A β y v := by
 rcases h with rfl | ⟨p, q, h1, rfl, h2⟩
 · exact hp
 · exact .pure _ _ (h2 _ _ _ (hp.toPV0 h1))
theorem ArgsOK.get : ∀ {l m : List AV}, ArgsOK l m → l.length = m.length ∧ ∀ (j : Nat) (y : AV), m[j]? = some y → ∃ x, l[j]? = some x ∧ ArgOK x y
 | [], [], _ => ⟨rfl, fun j y h => by simp at h⟩
 | x :: l, y :: m, h => by
   obtain ⟨h1, h2⟩ := h
   obtain ⟨h3, h4⟩ := ArgsOK.get h2
   refine ⟨by simp [h3], fun j z hj => ?_⟩
   cases j with
   | zero => simp at hj; subst hj; exact ⟨x, by simp, h1⟩
   | succ j => simpa using h4 j z (by simpa using hj)
 | [], _ :: _, h => h.elim
 | _ :: _, [], h => h.elim
def getsOf (s : St) : Nat → Nat → List AV
 | _, 0 => []
 | i, n + 1 => s.get i :: getsOf s (i + 1) n
def resG (r : Nat) (σ : Nat → Nat) (s1 : St) : AV := match r with
 | 1 => (s1.get 0).ren σ
 | r => .tup (AV.renL σ (getsOf s1 0 r))
theorem getsOf_get : ∀ {s : St} {n i j : Nat} {v : AV}, (getsOf s i n)[j]? = some v → v = s.get (i + j) ∧ j < n
 | s, 0, i, j, v, h => by simp [getsOf] at h
 | s, n + 1, i, j, v, h => by
   cases j with
   | zero => simp [getsOf] at h; exact ⟨h.symm, by omega⟩
   | succ j =>
     have := getsOf_get (n := n) (i := i + 1) (j := j) (v := v) (by simpa [getsOf] using h)
     exact ⟨by rw [this.1]; congr 1; omega, by omega⟩
theorem getsOf_length : ∀ {s : St} {n i : Nat}, (getsOf s i n).length = n
 | s, 0, i => rfl
 | s, n + 1, i => by simp [getsOf, getsOf_length (n := n)]
def callG (P : Program) (f : FuncId) (args : List AV) (s : St) (fx : List Nat) (K : Kont) : Prop :=
 ∃ (M : List (Nat × Nat)) (args0 : List AV) (B0 : List (Nat × Option Blk)) (U0 gfx : List Nat) (r : Nat) (s1 : St), GSpec P f args0.length ⟨numE 0 args0, B0, U0⟩ gfx r s1 ∧ ArgsOK args (AV.renL (sig M) args0) ∧
   blkEqs s (sig M) ⟨numE 0 args0, B0, U0⟩ M ∧ match useB s fx M ⟨numE 0 args0, B0, U0⟩ gfx s1 with
     | true => K (resG r (sig M) s1) (gActs (sig M) ⟨numE 0 args0, B0, U0⟩ s1 M)
     | false => False
theorem callG_calls {Γ : Ctx} {s : St} {tm : Array Value} {w : World} {β : BM} (h : Rl Γ s tm w β) {f : FuncId} {args : List AV} {vs : Array Value} (hvs : vs.size = args.length) (harg : ∀ (j : Nat) (x : AV), args[j]? = some x → AR w (Av Γ.X β) β x (vs.getD j undef))
   {K : Kont} (hK : callG Γ.P f args s Γ.fx K) : (∀ (vs : Array Value) (w : World), (callFunc f vs).run Γ.P w = .ok (.enter f vs) w) ∧
     Calls Γ.P f vs w fun e w' => ∃ u v acts β', e = .returned u ∧ K v acts ∧ Rl Γ (s.acts acts) tm w' β' ∧ AR w' (Av Γ.X β') β' v u ∧ ∀ k ∈ v.keys, k ∈ (s.acts acts).used := by
 obtain ⟨M, args0, B0, U0, gfx, r, s1, ⟨hc, hspec⟩, hA, he, hK⟩ := hK
 split at hK
 case h_2 => exact hK.elim
 rename_i hb
 obtain ⟨hu, k0, k1⟩ := Use.of h hb he
 obtain ⟨al, ag⟩ := hA.get
 rw [AV.renL_eq] at al ag
 have hl0 : args0.length = vs.size := by simp at al; omega
 refine ⟨hc, ?_⟩
 have hget : ∀ t, St.get ⟨numE 0 args0, B0, U0⟩ t = (args0[t]?).getD .junk := fun t => by simp [St.get, numE_get]
 have hent := h.enterG hu (vs := vs) (fun t => by
   rw [hget]
   cases ha : args0[t]? with
   | none => exact .junk _
   | some y =>
     obtain ⟨x, hx, hok⟩ := ag t (y.ren (sig M)) (by simp [ha])
     exact hok.ar (harg t x hx)) k0 k1
 rw [hl0] at hspec
 refine (hspec w _ _ vs hent).mono ?_
 rintro e w' ⟨us, β1, rfl, h1⟩
 obtain ⟨β2, q1, q2⟩ := h.leaveG hu h1
 have hus : us.size = r := h1.size
 refine ⟨_, _, _, β2, rfl, hK, q1, ?_, ?_⟩
 · unfold resG
   split
   · rw [if_pos hus]; exact (q2 0).1
   · rename_i hr
     rw [if_neg (fun e => hr (hus.symm.trans e))]
     refine .tup _ us (by rw [AV.renL_eq, List.length_map, getsOf_length]; exact hus) fun j p hj => ?_
     rw [AV.renL_eq, List.getElem?_map, Option.map_eq_some_iff] at hj
     obtain ⟨y, hy, rfl⟩ := hj
     obtain ⟨rfl, _⟩ := getsOf_get hy
     rw [Nat.zero_add]
     exact (q2 j).1
 · unfold resG
   split
   · exact (q2 0).2
   · intro k hk
     simp only [AV.keys] at hk
     obtain ⟨a, ha, hka⟩ := AV.mem_keysL.1 hk
     rw [AV.renL_eq] at ha
     obtain ⟨y, hy, rfl⟩ := List.mem_map.1 ha
     obtain ⟨j, hj, rfl⟩ := List.getElem_of_mem hy
     obtain ⟨e, _⟩ := getsOf_get (List.getElem?_eq_getElem hj)
     rw [e] at hka
     exact (q2 _).2 k hka
def callX (P : Program) (v : Value) (f : FuncId) (args : List AV) (s : St) (fx : List Nat) (C : St → Prop) : Prop :=
 ∃ (M : List (Nat × Nat)) (args0 : List AV) (B0 : List (Nat × Option Blk)) (U0 : List Nat), XSpec P f args0.length ⟨numE 0 args0, B0, U0⟩ v ∧ ArgsOK args (AV.renL (sig M) args0) ∧
   blkEqs s (sig M) ⟨numE 0 args0, B0, U0⟩ M ∧ match useB s fx M ⟨numE 0 args0, B0, U0⟩ [] ⟨[], [], []⟩ with
     | true => C (s.acts (gActs (sig M) ⟨numE 0 args0, B0, U0⟩ ⟨[], [], []⟩ M))
     | false => False
theorem callX_calls {Γ : Ctx} {s : St} {tm : Array Value} {w : World} {β : BM} (h : Rl Γ s tm w β) {f : FuncId} {args : List AV} {vs : Array Value} (hvs : vs.size = args.length) (harg : ∀ (j : Nat) (x : AV), args[j]? = some x → AR w (Av Γ.X β) β x (vs.getD j undef))
   {v : Value} {C : St → Prop} (hK : callX Γ.P v f args s Γ.fx C) : (∀ (vs : Array Value) (w : World), (callFunc f vs).run Γ.P w = .ok (.enter f vs) w) ∧
     Calls Γ.P f vs w fun e w' => e = .panicked [{ v := v, recovered := false }] ∧ ∃ acts β', C (s.acts acts) ∧ Rl Γ (s.acts acts) tm w' β' := by
 obtain ⟨M, args0, B0, U0, ⟨hc, hspec⟩, hA, he, hK⟩ := hK
 split at hK
 case h_2 => exact hK.elim
 rename_i hb
 obtain ⟨hu, k0, k1⟩ := Use.of h hb he
 obtain ⟨al, ag⟩ := hA.get
 rw [AV.renL_eq] at al ag
 have hl0 : args0.length = vs.size := by simp at al; omega
 refine ⟨hc, ?_⟩
 have hget : ∀ t, St.get ⟨numE 0 args0, B0, U0⟩ t = (args0[t]?).getD .junk := fun t => by simp [St.get, numE_get]
 have hent := h.enterG hu (vs := vs) (fun t => by
   rw [hget]
   cases ha : args0[t]? with
   | none => exact .junk _
   | some y =>
     obtain ⟨x, hx, hok⟩ := ag t (y.ren (sig M)) (by simp [ha])
     exact hok.ar (harg t x hx)) k0 k1
 rw [hl0] at hspec
 refine (hspec w _ _ vs hent).mono ?_
 rintro e w' ⟨rfl, hkp⟩
 have h1 : Rl (Ctx.plain Γ.P 0 w (x0 Γ β (M.map (·.1)) (sig M) ⟨numE 0 args0, B0, U0⟩) (b0 β (M.map (·.1)) (sig M) ⟨numE 0 args0, B0, U0⟩) []) ⟨[], [], []⟩ #[] w' (fun _ => none) :=
   { size := rfl
     slots := fun t => .junk _
     blks := fun k => trivial
     inj := fun k k' bi bi' hk => by cases hk
     lt := fun k bi hk => by cases hk
     notX := fun k bi hk => by cases hk
     own := fun k bi hk => by cases hk
     fixd := fun k hk => by cases hk
     used1 := fun t k hk => by simp [St.get, lk, AV.keys] at hk
     used2 := fun k b hk => by simp [St.blk, lk] at hk
     keep := hkp
     Xlt := fun b hb => Nat.lt_of_lt_of_le (hent.Xlt b hb) hkp.size
     glob := hent.glob.mono ⟨hkp.size, fun b hb hn => ⟨hkp.block b hb fun he => hn (.inr he), fun hA => hn (by
       rcases hA with hA | ⟨k, bi, hk, _⟩
       · exact .inl hA
       · cases hk)⟩⟩ }
 obtain ⟨β2, q1, _⟩ := h.leaveG hu h1
 exact ⟨rfl, _, β2, hK, q1⟩
end Go.Avc
/- The verification conditions of operations, regions, code and functions, and that they suffice. Conditions: none. -/
namespace Go.Avc
open Go.RowKit
def PSub (p q : PV) : Prop := ∀ w A v, PR w A p v → PR w A q v
theorem PSub.refl (p : PV) : PSub p p := fun _ _ _ h => h
theorem PSub.of_eq {p q : PV} (h : p = q) : PSub p q := h ▸ PSub.refl p
theorem PSub.nil (sz : Nat) : PSub (.val (.slice none 0 0)) (.sl sz []) := fun w A v h => by rw [h.val_inv]; exact .slnil sz
theorem PSub.trans {p q r : PV} (h : PSub p q) (k : PSub q r) : PSub p r := fun w A v hp => k w A v (h w A v hp)
def SubL : List PV → List PV → Prop
 | [], [] => True
 | p :: l, q :: m => PSub p q ∧ SubL l m
 | _, _ => False
theorem SubL.get : ∀ {l m : List PV}, SubL l m → l.length = m.length ∧ ∀ (j : Nat) (q : PV), m[j]? = some q → ∃ p, l[j]? = some p ∧ PSub p q
 | [], [], _ => ⟨rfl, fun j q h => by simp at h⟩
 | p :: l, q :: m, h => by
   obtain ⟨h1, h2⟩ := h
   obtain ⟨h3, h4⟩ := SubL.get h2
   refine ⟨by simp [h3], fun j r hj => ?_⟩
   cases j with
   | zero => simp at hj; subst hj; exact ⟨p, by simp, h1⟩
   | succ j => simpa using h4 j r (by simpa using hj)
 | [], _ :: _, h => h.elim
 | _ :: _, [], h => h.elim
theorem PSub.agg {l m : List PV} (h : SubL l m) : PSub (.agg l) (.agg m) := fun w A v hp => by
 obtain ⟨h1, h2⟩ := h.get
 cases hp with
 | agg _ vs hl hp => exact .agg _ _ (by omega) fun j q hj => by obtain ⟨p, hp', hs⟩ := h2 j q hj; exact hs _ _ _ (hp j p hp')
theorem PSub.tup {l m : List PV} (h : SubL l m) : PSub (.tup l) (.tup m) := fun w A v hp => by
 obtain ⟨h1, h2⟩ := h.get
 cases hp with
 | tup _ vs hl hp => exact .tup _ _ (by omega) fun j q hj => by obtain ⟨p, hp', hs⟩ := h2 j q hj; exact hs _ _ _ (hp j p hp')
structure FOK (F : Fence) : Prop where
 fn : ∀ f, F.fn f
 depth : F.depth = none
 calls : ∀ (n : Nat) (P : Program) (f : FuncId) (args : Array Value) (w : World) (R : Ending → World → Prop), Calls P f args w R → CallsIn F n P f args w R
 rounds : ∀ (n : Nat) (P : Program) (l : Nat) (f : FuncId) (tmps : Array Value) (assign body : Code) (w : World) (R : Ending → World → Prop), RoundIn Fence.wide 0 P l f tmps assign body w R → RoundIn F n P l f tmps assign body w R
theorem FOK.wide : FOK Fence.wide := ⟨fun _ => trivial, rfl, fun _ _ _ _ _ _ h => callsIn_wide.2 h, fun _ _ _ _ _ _ _ _ _ h => ⟨h.1, fun c cs _ => h.2 c cs (room_wide _)⟩⟩
theorem FOK.inRound (l : Nat) : FOK (Fence.wide.inRound l) := ⟨fun _ => trivial, rfl, fun n P f args w R h => (callsIn_wide.2 h : CallsIn Fence.wide n P f args w R),
 fun n P l f tmps a b w R h => ((⟨h.1, fun c cs _ => h.2 c cs (room_wide _)⟩ : RoundIn Fence.wide n P l f tmps a b w R) : RoundIn Fence.wide n P l f tmps a b w R)⟩
def constAV : Value → AV
 | .agg cs => .pure (.agg (cs.toList.map .val))
 | v => .pure (.val v)
def St.geto (s : St) : Operand → AV
 | .tmp t => s.get t
 | .const v => constAV v
 | .func f => match Nat.blt f bmB with
   | true => .fn f []
   | false => .junk
 | .global g => .pure (.val (.pointer (some ⟨g, 0, none⟩)))
def PSpec (P : Program) (f : FuncId) (args : List PV) (res : PV) : Prop :=
 (∀ (vs : Array Value) (w : World), (callFunc f vs).run P w = .ok (.enter f vs) w) ∧
 ∀ (w : World) (X : Nat → Prop) (vs : Array Value), GlobOK P w X → vs.size = args.length → (∀ (j : Nat) (p : PV), args[j]? = some p → PR w X p (vs.getD j undef)) → (∀ b, X b → b < w.heap.size) →
   Calls P f vs w fun e w' => ∃ v, e = .returned v ∧ PR w' X res v ∧ Kp (fun _ => False) w w'
def PV.isVal : PV → Bool
 | .val _ => true
 | _ => false
def allVal : List PV → Bool
 | [] => true
 | p :: l => bif p.isVal then allVal l else false
def PV.scal : PV → Bool
 | .val _ => true
 | .tup cs => allVal cs
 | _ => false
def callVC (md : Bool) (P : Program) (f : FuncId) (args : List AV) (blk : Nat → Option Blk) (fx : List Nat) (K : Kont) : Prop :=
 match toPVL blk args with
 | none => False
 | some ps => ∃ res, PSpec P f ps res ∧ match res.scal with
   | true => K (.pure res) []
   | false => disj (AV.keysL args) fx = true ∧ K (.pure res) (fk md (AV.keysL args))
def guardNew (d : Nat) (used fx : List Nat) (p : Prop) : Prop :=
 match freshIn d used with
 | true => match freshIn d fx with
   | true => p
   | false => False
 | false => False
def fnSplit (f : FuncId) (cs : List AV) : Option (FuncId × List AV × List AV) := match Nat.blt f bmB with
 | true => some (f, [], cs)
 | false => match cs with
   | [p] => some (f - bmB, [p], [])
   | _ => none
def fnOf : AV → Option (FuncId × List AV × List AV)
 | .fn f cs => fnSplit f cs
 | .pure (.fn f cs) => fnSplit f (pures cs)
 | _ => none
def ArL (w : World) (A : Nat → Prop) (β : BM) (l : List AV) (us : Array Value) : Prop := us.size = l.length ∧ ∀ (j : Nat) (x : AV), l[j]? = some x → AR w A β x (us.getD j undef)
theorem ArL.append {w : World} {A : Nat → Prop} {β : BM} {l m : List AV} {us vs : Array Value} (h : ArL w A β l us) (k : ArL w A β m vs) : ArL w A β (l ++ m) (us ++ vs) := by
 refine ⟨by rw [Array.size_append, List.length_append, h.1, k.1], fun j x hj => ?_⟩
 rw [Array.getD_eq_getD_getElem?]
 by_cases hlt : j < l.length
 · rw [List.getElem?_append_left hlt] at hj
   rw [Array.getElem?_append_left (by rw [h.1]; exact hlt)]
   have := h.2 j x hj
   rwa [Array.getD_eq_getD_getElem?] at this
 · rw [List.getElem?_append_right (by omega)] at hj
   rw [Array.getElem?_append_right (by rw [h.1]; omega), h.1]
   have := k.2 _ x hj
   rwa [Array.getD_eq_getD_getElem?] at this
theorem fnSplit_spec {w : World} {A : Nat → Prop} {β : BM} {g : FuncId} {ds : List AV} {u : Value} (h : AR w A β (.fn g ds) u) {f : FuncId} {fs cs : List AV} (hf : fnSplit g ds = some (f, fs, cs)) :
   ∃ us vs : Array Value, u = .func (.func f) us vs ∧ ArL w A β fs us ∧ ArL w A β cs vs := by
 unfold fnSplit at hf
 split at hf
 · rename_i hb
   cases hf
   have hb' : g < bmB := by rw [Nat.blt_eq] at hb; exact hb
   cases h with
   | fn g ds vs hl hp => exact ⟨#[], vs, rfl, ⟨rfl, by simp⟩, hl.1, hp⟩
   | bm _ g' p v he hp => exact absurd (he ▸ hb') (by rw [Nat.not_lt]; exact Nat.le_add_left _ _)
 · rename_i hb
   have hb' : ¬ g < bmB := by
     intro h'
     rw [← Nat.blt_eq, hb] at h'
     cases h'
   split at hf
   · simp only [Option.some.injEq, Prod.mk.injEq] at hf
     obtain ⟨rfl, rfl, rfl⟩ := hf
     cases h with
     | fn _ _ vs hl hp => exact absurd hl.2 hb'
     | bm _ g' p v he hp =>
       subst he
       rw [Nat.add_sub_cancel]
       refine ⟨#[v], #[], rfl, ⟨rfl, fun j x hj => ?_⟩, rfl, by simp⟩
       cases j with
       | zero => simp at hj; subst hj; exact hp
       | succ j => simp at hj
   · cases hf
theorem fnOf_spec {w : World} {A : Nat → Prop} {β : BM} {v : AV} {u : Value} (h : AR w A β v u) {f : FuncId} {fs cs : List AV} (hf : fnOf v = some (f, fs, cs)) :
   ∃ us vs : Array Value, u = .func (.func f) us vs ∧ ArL w A β fs us ∧ ArL w A β cs vs := by
 have pure_ : ∀ {g : FuncId} {ds : List PV}, PR w A (.fn g ds) u → AR w A β (.fn g (pures ds)) u := fun {g ds} hp => by
   cases hp with
   | fn g ds vs hl hp =>
     refine .fn g _ vs ⟨by simp [pures, hl.1], hl.2⟩ fun j p hj => ?_
     obtain ⟨q, hq, rfl⟩ := pures_get hj
     exact .pure _ _ (hp j q hq)
   | bm g g' p v he hp => exact .bm g g' _ v he (.pure _ _ hp)
 cases v with
 | fn g ds => exact fnSplit_spec h hf
 | pure p =>
   cases p with
   | fn g ds =>
     cases h with
     | pure _ _ hp => exact fnSplit_spec (pure_ hp) hf
   | _ => cases hf
 | _ => cases hf
theorem fnSplit_keys {g : FuncId} {ds : List AV} {f : FuncId} {fs cs : List AV} (hf : fnSplit g ds = some (f, fs, cs)) : ∀ k ∈ AV.keysL (fs ++ cs), k ∈ AV.keysL ds := by
 unfold fnSplit at hf
 split at hf
 · cases hf; intro k hk; exact hk
 · split at hf
   · simp only [Option.some.injEq, Prod.mk.injEq] at hf
     obtain ⟨rfl, rfl, rfl⟩ := hf
     intro k hk; exact hk
   · cases hf
theorem fnOf_keys {v : AV} {f : FuncId} {fs cs : List AV} (hf : fnOf v = some (f, fs, cs)) : ∀ k ∈ AV.keysL (fs ++ cs), k ∈ v.keys := by
 cases v with
 | fn g ds => exact fnSplit_keys hf
 | pure p =>
   cases p with
   | fn g ds => intro k hk; have := fnSplit_keys hf k hk; rw [keys_pures] at this; cases this
   | _ => cases hf
 | _ => cases hf
def nilIn (md : Bool) (y : AV) : Bool := match md with
 | true => isNil y
 | false => false
def opVC (md : Bool) (more : St → Oper → Kont → Prop) (P : Program) (fx : List Nat) (s : St) (o : Oper) (K : Kont) : Prop :=
 match o.op with
 | .move x => force (s.geto x) K
 | .assign x => force (s.geto x) K
 | .pick c a b => opPick (s.geto c) (s.geto a) (s.geto b) K
 | .alloc t => match o.dst with
   | some d => guardNew d s.used fx (opAlloc P t d K)
   | none => False
 | .box t x => match o.dst with
   | some d => guardNew d s.used fx (opBoxA P t (s.geto x) d s.blk K)
   | none => False
 | .load t x => opLoad P t (s.geto x) s.blk K
 | .store t x v => opStoreA md P t (s.geto x) (s.geto v) s.blk fx K
 | .fieldAddr t x f => opFieldAddr P t (s.geto x) f s.blk K
 | .indexAddr t x i => opIndexAddr P t (s.geto x) (s.geto i) s.blk K
 | .field t x f => opField P t (s.geto x) f K
 | .index t x i => opIndex P t (s.geto x) (s.geto i) K
 | .binOp op t x y _ => match nilIn md (s.geto y) with
   | true => False
   | false => match lenLiveB (s.geto x) s.blk with
     | true => opBin P op t (s.geto x) (s.geto y) K
     | false => False
 | .unOp op _ x => opUn op (s.geto x) K
 | .extract x i => opExtract (s.geto x) i K
 | .makeFunc (.func f) first captured => match first.toList with
   | [] => match Nat.blt f bmB with
     | true => K (.fn f (captured.toList.map s.geto)) []
     | false => False
   | [x] => match captured.toList with
     | [] => K (.fn (f + bmB) [s.geto x]) []
     | _ => False
   | _ => False
 | .call c => match c.callee with
   | .builtin .len => match c.args.toList, c.argTypes.toList with
     | [x], [t] => match lenLiveB (s.geto x) s.blk with
       | true => opLen P t (s.geto x) K
       | false => False
     | _, _ => False
   | .value f => match fnOf (s.geto f) with
     | some (f, fs, cs) => match md with
       | true => callVC true P f (fs ++ c.args.toList.map s.geto ++ cs) s.blk fx K
       | false => callVC false P f (fs ++ c.args.toList.map s.geto ++ cs) s.blk fx K ∨ callG P f (fs ++ c.args.toList.map s.geto ++ cs) s fx K
     | none => more s o K
   | _ => more s o K
 | _ => more s o K
def St.putD (s : St) : Option Tmp → AV → St
 | none, _ => s
 | some d, v => s.put d v
def dstOk (N : Nat) : Option Tmp → Bool
 | none => true
 | some d => Nat.blt d N
def actC (s : St) (act : BAct) (C : St → Prop) : Prop :=
 match s with
 | ⟨e, b, u⟩ => match act with
   | .set k x => C ⟨e, (k, some x) :: b, u⟩
   | .new k x => C ⟨e, (k, some x) :: b, k :: u⟩
   | .kill k => C ⟨e, (k, none) :: b, u⟩
   | .frz k => C (St.freeze ⟨e, b, u⟩ k)
noncomputable def actsC (l : List BAct) : St → (St → Prop) → Prop :=
 List.rec (motive := fun _ => St → (St → Prop) → Prop) (fun s C => C s) (fun act _ ih s C => actC s act fun s' => ih s' C) l
def putC (s : St) (dst : Option Tmp) (v : AV) (C : St → Prop) : Prop :=
 match dst with
 | none => C s
 | some d => match s with
   | ⟨e, b, u⟩ => C ⟨(d, v) :: e, b, u⟩
def isYld (s : St) (o : Oper) : Option (Nat × List Operand) := match o.op with
 | .call c => match c.callee with
   | .value f => match s.geto f with
     | .pure (.val (.func (.yield l) a b)) => match a.toList, b.toList with
       | [], [] => some (l, c.args.toList)
       | _, _ => none
     | _ => none
   | _ => none
 | _ => none
def Need (A B : Prop) : Prop := A ∧ B
theorem Need.intro {A B : Prop} (h : A) (k : B) : Need A B := ⟨h, k⟩
def Both (A B : Prop) : Prop := A ∧ B
theorem Both.intro {A B : Prop} (h : A) (k : B) : Both A B := ⟨h, k⟩
def yldSet (N d i : Nat) (C : St → Prop) (s : St) : Prop := match s with
 | ⟨e, b, u⟩ => Both (C ⟨(d, .pure (.val (.bool true))) :: (N, .gh (i + 1) false) :: e, b, u⟩) (C ⟨(d, .pure (.val (.bool false))) :: (N, .gh (i + 1) true) :: e, b, u⟩)
def yldVC {P : Program} (md : Bool) (y : Yl P) (N : Nat) (fx : List Nat) (s : St) (l : Nat) (args : List Operand) (d : Tmp) (C : St → Prop) : Prop :=
 match md with
 | true => False
 | false => match Nat.blt d N with
   | false => False
   | true => match s.get N with
   | .gh i false => match toPVL s.blk (args.map s.geto) with
     | some ps => disj (AV.keysL (args.map s.geto)) fx = true ∧ l = y.l ∧ y.on = true ∧ Need (∃ row, y.xs[i]? = some row ∧ SubL ps row) (actsC (frzs (AV.keysL (args.map s.geto))) s (yldSet N d i C))
     | none => False
   | _ => False
def opK0 {P : Program} (md : Bool) (more : St → Oper → Kont → Prop) (y : Yl P) (N : Nat) (fx : List Nat) (s : St) (o : Oper) (C : St → Prop) : Prop :=
 match isYld s o with
 | some (l, args) => match o.dst with
   | some d => yldVC md y N fx s l args d C
   | none => False
 | none => opVC md more P fx s o fun v acts => actsC acts s fun s' => putC s' o.dst v C
def vEq (v : Value) (x : AV) : Prop := x = .pure (.val v)
def opK {P : Program} (md : Bool) (more : St → Oper → Kont → Prop) (pk : Option (Value × (St → Prop))) (y : Yl P) (N : Nat) (fx : List Nat) (s : St) (o : Oper) (C : St → Prop) : Prop :=
 match pk with
 | none => opK0 md more y N fx s o C
 | some (v, D) => match o.op with
   | .panic x => match v with
     | .iface _ _ => vEq v (s.geto x) ∧ D s
     | _ => False
   | .call c => match c.callee with
     | .value f => match fnOf (s.geto f) with
       | some (f, fs, cs) => callX P v f (fs ++ c.args.toList.map s.geto ++ cs) s fx D ∨ opK0 md more y N fx s o C
       | none => opK0 md more y N fx s o C
     | _ => opK0 md more y N fx s o C
   | _ => opK0 md more y N fx s o C
def und : AV := .pure (.val (.tuple #[]))
def opsStep (md : Bool) (more : St → Oper → Kont → Prop) (P : Program) (pk : Option (Value × (St → Prop))) (y : Yl P) (N : Nat) (fx : List Nat) (ops : List Oper) (o : Oper) (ih : St → (St → Prop) → Prop) (s : St) (K : St → Prop) : Prop :=
 match dstOk N o.dst with
 | false => False
 | true => match o.guard with
   | none => opK md more pk y N fx s o fun s'' => ih s'' K
   | some (j, want) => match (nth ops j).bind (·.dst) with
     | none => False
     | some d => match Nat.blt d N with
       | false => False
       | true => match s.get d with
         | .pure (.val (.bool b)) => match s with
           | ⟨e, bl, u⟩ => bsel b
             (match want with
               | true => opK md more pk y N fx ⟨(d, .pure (.val (.bool true))) :: e, bl, u⟩ o fun s'' => ih s'' K
               | false => putC ⟨(d, .pure (.val (.bool true))) :: e, bl, u⟩ o.dst und fun s'' => ih s'' K)
             (match want with
               | true => putC ⟨(d, .pure (.val (.bool false))) :: e, bl, u⟩ o.dst und fun s'' => ih s'' K
               | false => opK md more pk y N fx ⟨(d, .pure (.val (.bool false))) :: e, bl, u⟩ o fun s'' => ih s'' K)
         | .pure (.val (.tuple a)) => match a.toList with
           | [] => putC s o.dst und fun s'' => ih s'' K
           | _ => False
         | _ => False
noncomputable def opsVC (md : Bool) (more : St → Oper → Kont → Prop) (P : Program) (pk : Option (Value × (St → Prop))) (y : Yl P) (N : Nat) (fx : List Nat) (ops : List Oper) (l : List Oper) : St → (St → Prop) → Prop :=
 List.rec (motive := fun _ => St → (St → Prop) → Prop) (fun s K => K s) (fun o _ ih s K => opsStep md more P pk y N fx ops o ih s K) l
theorem actsC_eq (l : List BAct) : ∀ (s : St) (C : St → Prop), actsC l s C = C (s.acts l) := by
 induction l with
 | nil => intro s C; rfl
 | cons act l ih =>
   intro s C
   show actC s act (fun s' => actsC l s' C) = _
   cases s
   cases act <;> exact ih _ C
theorem putC_eq (s : St) (dst : Option Tmp) (v : AV) (C : St → Prop) : putC s dst v C = C (s.putD dst v) := by
 cases dst <;> rfl
def EscS (Γ : Ctx) (e : Exit) (s : St) : Prop := ∃ v D, Γ.pk = some (v, D) ∧ e = .panic [{ v := v, recovered := false }] ∧ D s
def Wp (Γ : Ctx) (F : Fence) (n : Nat) (c : Code) (s : St) (K : Exit → St → Prop) : Prop :=
 ∀ a w, R Γ s a w → c.wpIn F n Γ.P (fun e a' w' => ∃ s', (K e s' ∨ EscS Γ e s') ∧ R Γ s' a' w') a w
def seqK (ih : St → (Exit → St → Prop) → Prop) (K : Exit → St → Prop) (e : Exit) (s : St) : Prop := match e with
 | .normal => ih s K
 | .exit i => K (.exit i) s
 | .goto l => K (.goto l) s
 | .ret => K .ret s
 | .panic c => K (.panic c) s
 | .outgrown => K .outgrown s
def blockK (id : Nat) (K : Exit → St → Prop) (e : Exit) (s : St) : Prop := match e with
 | .normal => K .normal s
 | .exit i => bif Nat.beq i id then K .normal s else K (.exit i) s
 | .goto l => K (.goto l) s
 | .ret => K .ret s
 | .panic c => K (.panic c) s
 | .outgrown => K .outgrown s
def scopeK (K : Exit → St → Prop) (e : Exit) (s : St) : Prop := match e with
 | .normal => K .normal s
 | .exit i => K (.exit i) s
 | .goto _ => False
 | .ret => K .ret s
 | .panic c => K (.panic c) s
 | .outgrown => K .outgrown s
def condC (x : AV) (A B : Prop) : Prop := match x with
 | .pure (.val (.bool t)) => bsel t A B
 | _ => False
noncomputable def vcCode (more : St → Oper → Kont → Prop) (Γ : Ctx) (F : Fence) (n : Nat) (c : Code) : St → (Exit → St → Prop) → Prop :=
 Code.rec (motive := fun _ => St → (Exit → St → Prop) → Prop)
   (fun s K => K .normal s)
   (fun id ops d s K => match d with
     | false => opsVC false more Γ.P Γ.pk Γ.y Γ.N Γ.fx ops.toList ops.toList s (K .normal)
     | true => Wp Γ F n (.region id ops true) s K)
   (fun _ _ iha ihb s K => iha s (seqK ihb K))
   (fun c _ _ iha ihb s K => condC (s.geto c) (iha s K) (ihb s K))
   (fun id _ ih s K => ih s (blockK id K))
   (fun body _ s K => Wp Γ F n (.loop body) s K)
   (fun f ps as body _ _ s K => Wp Γ F n (.rangeFunc f ps as body) s K)
   (fun id s K => K (.exit id) s)
   (fun _ ih s K => ih s (scopeK K))
   (fun _ s K => K .normal s)
   (fun l s K => Wp Γ F n (.goto l) s K)
   (fun s K => K .ret s)
   (fun w s K => Wp Γ F n (.refuse w) s K) c
section
variable {Γ : Ctx} {F : Fence} {n : Nat} {s : St} {a : Act} {w : World} {β : BM}
theorem geto_AR (h : Rl Γ s a.tmps w β) (x : Operand) : AR w (Av Γ.X β) β (s.geto x) (a.eval x) := by
 cases x with
 | tmp t => exact h.slots t
 | const v =>
   show AR w _ β (constAV v) v
   unfold constAV
   split
   · rename_i cs
     refine .pure _ _ (.agg _ _ (by simp) fun j p hj => ?_)
     simp only [List.getElem?_map, Option.map_eq_some_iff, Array.getElem?_toList] at hj
     obtain ⟨v, hv, rfl⟩ := hj
     rw [Array.getD_eq_getD_getElem?, hv]
     exact .val _
   · exact .pure _ _ (.val _)
 | func f =>
   simp only [St.geto]
   split
   · rename_i hb
     exact .fn f [] #[] ⟨rfl, by rw [Nat.blt_eq] at hb; exact hb⟩ (by simp)
   · exact .junk _
 | global g => exact .pure _ _ (.val _)
theorem geto_keys (h : Rl Γ s a.tmps w β) (x : Operand) : ∀ k ∈ (s.geto x).keys, k ∈ s.used := by
 cases x with
 | tmp t => exact h.used1 t
 | const v => intro k hk; simp only [St.geto] at hk; unfold constAV at hk; split at hk <;> simp [AV.keys] at hk
 | func f => intro k hk; simp only [St.geto] at hk; split at hk <;> simp [AV.keys, AV.keysL] at hk
 | global g => intro k hk; simp [St.geto, AV.keys] at hk
theorem wpIn_of_run (hF : FOK F) {o : Oper} (hnd : ∀ c, o.op ≠ .defer c) {v : Value} {w' : World} (hr : (execOp a.eval o).run Γ.P w = .ok (.value v) w') {next : Act → World → Prop} {Q : Exit → Act → World → Prop}
   (hk : next (a.put o.dst v) w') : o.wpIn F n Γ.P a w next Q := by
 refine ⟨fun f _ => hF.fn f, ?_⟩
 rw [Oper.semAt_eq _ _ _ hnd, hr]
 exact hk
theorem wpIn_of_skip (hF : FOK F) {o : Oper} (hnd : ∀ c, o.op ≠ .defer c) {w' : World} (hr : (execOp a.eval o).run Γ.P w = .ok .skip w') {next : Act → World → Prop} {Q : Exit → Act → World → Prop}
   (hk : next (a.put o.dst undef) w') : o.wpIn F n Γ.P a w next Q := by
 refine ⟨fun f _ => hF.fn f, ?_⟩
 rw [Oper.semAt_eq _ _ _ hnd, hr]
 exact hk
theorem putD_R {d : Option Tmp} {v : AV} {u : Value} {ds : List Deferred} (hd : a.defers = ds) (h : Rl Γ s a.tmps w β) (ho : dstOk Γ.N d = true) (hv : AR w (Av Γ.X β) β v u) (hk : ∀ k ∈ v.keys, k ∈ s.used) : R0 Γ ds (s.putD d v) (a.put d u) w := by
 cases d with
 | none => exact ⟨hd, β, h⟩
 | some d => exact ⟨hd, β, h.put (by simpa [dstOk, Nat.blt_eq] using ho) hv hk⟩
theorem Rl.ext {tm : Array Value} (h : Rl Γ s tm w β) {w' : World} (hk : Kp (fun _ => False) w w') : Rl Γ s tm w' β := by
 have had : Ad w (Av Γ.X β) w' (Av Γ.X β) := ⟨hk.size, fun b hb hA => ⟨hk.block b hb (fun h => h), hA⟩⟩
 exact
 { h with
   slots := fun t => (h.slots t).mono had fun _ _ => rfl
   blks := fun k => by
     have hb := h.blks k
     cases hs : s.blk k with
     | none =>
       rw [hs] at hb
       cases hβ : β k with
       | none => trivial
       | some bi => rw [hβ] at hb; exact hb.elim
     | some blk =>
       rw [hs] at hb
       cases hβ : β k with
       | none => rw [hβ] at hb; exact hb.elim
       | some bi =>
         rw [hβ] at hb
         exact BOK.mono had hb (fun _ _ => rfl) fun hv => hk.block _ (h.lt k bi hβ hv) (fun h => h)
   lt := fun k bi hb hv => Nat.lt_of_lt_of_le (h.lt k bi hb hv) hk.size
   Xlt := fun b hb => Nat.lt_of_lt_of_le (h.Xlt b hb) hk.size
   glob := h.glob.mono had
   keep := h.keep.trans ⟨hk.os, hk.tape, hk.output, hk.size, fun b hb _ => hk.block b hb (fun h => h)⟩ }
theorem PR.scal_any {A A' : Nat → Prop} {w' : World} {p : PV} {v : Value} (h : PR w A p v) (hs : p.scal = true) : PR w' A' p v := by
 cases h with
 | val => exact .val _
 | slnil => cases hs
 | sl => cases hs
 | ptr => cases hs
 | par => cases hs
 | agg => cases hs
 | fn => cases hs
 | bm => cases hs
 | slcnil => cases hs
 | slc => cases hs
 | mp => cases hs
 | tup cs vs hl hp =>
   refine .tup cs vs hl fun j p hj => ?_
   have hv : ∀ {l : List PV}, allVal l = true → ∀ q ∈ l, ∃ x, q = .val x := by
     intro l
     induction l with
     | nil => intro _ q hq; cases hq
     | cons c l ih =>
       intro h q hq
       cases c with
       | val x =>
         rcases List.mem_cons.1 hq with rfl | hq
         · exact ⟨x, rfl⟩
         · exact ih h q hq
       | sl => cases h
       | ptr => cases h
       | par => cases h
       | agg => cases h
       | tup => cases h
       | fn => cases h
       | slc => cases h
       | mp => cases h
   obtain ⟨x, rfl⟩ := hv hs p (List.mem_of_getElem? hj)
   rw [(hp j _ hj).val_inv]
   exact .val _
theorem call_run {o : Oper} {c : Call} (ho : o.op = .call c) {fo : Operand} (hc : c.callee = .value fo) {f : FuncId} {us vs : Array Value} (hev : a.eval fo = .func (.func f) us vs) (hcall : ∀ (vs : Array Value) (w : World), (callFunc f vs).run Γ.P w = .ok (.enter f vs) w) :
   (execOp a.eval o).run Γ.P w = .ok (.enter f (us ++ c.args.map a.eval ++ vs)) w := by
 simp only [execOp, ho, resolve, hc, hev, Deferred.ofValue, Sem.run_bind, Sem.run_pure, Result.andThen_ok, invoke]
 exact hcall _ _
theorem args_AR (h : Rl Γ s a.tmps w β) {c : Call} {fs cs : List AV} {us vs : Array Value} (hus : ArL w (Av Γ.X β) β fs us) (hvs : ArL w (Av Γ.X β) β cs vs) :
   ArL w (Av Γ.X β) β (fs ++ c.args.toList.map s.geto ++ cs) (us ++ c.args.map a.eval ++ vs) := by
 refine (hus.append ⟨by simp, fun j x hj => ?_⟩).append hvs
 simp only [List.getElem?_map, Option.map_eq_some_iff, Array.getElem?_toList] at hj
 obtain ⟨y, hy, rfl⟩ := hj
 rw [Array.getD_eq_getD_getElem?, Array.getElem?_map, hy]
 exact geto_AR h y
theorem call_sound (hF : FOK F) (h : Rl Γ s a.tmps w β) {o : Oper} {c : Call} (ho : o.op = .call c) {fo : Operand} (hc : c.callee = .value fo) {f : FuncId} {fs cs : List AV} (hf : fnOf (s.geto fo) = some (f, fs, cs)) {K : Kont}
   {md : Bool} (hK : callVC md Γ.P f (fs ++ c.args.toList.map s.geto ++ cs) s.blk Γ.fx K) {next : Act → World → Prop} {Q : Exit → Act → World → Prop}
   (hk : ∀ v acts u w' β', K v acts → Rl Γ (s.acts acts) a.tmps w' β' → AR w' (Av Γ.X β') β' v u → (∀ k ∈ v.keys, k ∈ (s.acts acts).used) → next (a.put o.dst u) w') : o.wpIn F n Γ.P a w next Q := by
 unfold callVC at hK
 split at hK
 · exact hK.elim
 rename_i ps hps
 obtain ⟨res, ⟨hcall, hspec⟩, hK⟩ := hK
 refine ⟨fun f _ => hF.fn f, ?_⟩
 rw [Oper.semAt_eq _ _ _ (by rw [ho]; intro c; simp)]
 obtain ⟨us0, vs, hev, hus, hvs⟩ := fnOf_spec (geto_AR h fo) hf
 rw [call_run ho hc hev hcall]
 obtain ⟨hxl, harg⟩ := args_AR h (c := c) hus hvs
 generalize hxs : fs ++ c.args.toList.map s.geto ++ cs = xs at harg hps hK hxl
 generalize us0 ++ c.args.map a.eval ++ vs = us at harg hxl
 obtain ⟨hl, hpp⟩ := toPVL_some hps
 have hsize : us.size = ps.length := by rw [hl, hxl]
 refine ⟨fun hn => (by rw [hF.depth] at hn; cases hn), hF.calls _ _ _ _ _ _ ?_⟩
 split at hK
 · rename_i hsc
   -- a plain answer: nothing need be frozen
   have hdead : ∀ k ∈ AV.keysL xs, FzOK s.blk k := toPVL_keys _ hps
   let β' : BM := fun j => if j ∈ AV.keysL xs then none else β j
   have had : Ad w (Av Γ.X β) w (Av Γ.X β') := ⟨Nat.le_refl _, fun b _ hA => ⟨rfl, fun hA' => hA (by
     rcases hA' with hx | ⟨j, bj, hj, hv, hb⟩
     · exact .inl hx
     · refine .inr ⟨j, bj, ?_, hv, hb⟩
       by_cases e : j ∈ AV.keysL xs
       · simp [β', e] at hj
       · simpa [β', e] using hj)⟩⟩
   have hpr : ∀ (j : Nat) (p : PV), ps[j]? = some p → PR w (Av Γ.X β') p (us.getD j undef) := fun j p hj => by
     obtain ⟨x, hx, hxp⟩ := hpp j p hj
     refine AR.toPV had h.blks (harg j x hx) (fun k hkx bi hb hv => ?_) hxp
     have hmem : k ∈ AV.keysL xs := AV.mem_keysL.2 ⟨x, List.mem_of_getElem? hx, hkx⟩
     rintro (hX | ⟨j', bj, hj', hv', hbb⟩)
     · exact h.notX k bi hb hv hX
     · by_cases e : j' ∈ AV.keysL xs
       · simp [β', e] at hj'
       · have hj'' : β j' = some bj := by simpa [β', e] using hj'
         have := h.inj j' k bj bi hj'' hb hv' hv hbb
         subst this
         exact e hmem
   refine (hspec w (Av Γ.X β') _ (h.glob.mono had) hsize hpr (fun b hb => h.Avlt b ?_)).mono ?_
   · rcases hb with hx | ⟨j, bj, hj, hv, hbb⟩
     · exact .inl hx
     · refine .inr ⟨j, bj, ?_, hv, hbb⟩
       by_cases e : j ∈ AV.keysL xs
       · simp [β', e] at hj
       · simpa [β', e] using hj
   · rintro e w' ⟨v, rfl, hv, hkp⟩
     exact hk _ [] v w' β hK (h.ext hkp) (.pure _ _ (hv.scal_any hsc)) (by simp [AV.keys])
 · obtain ⟨hdj, hK⟩ := hK
   obtain ⟨β', f1, f2, f3, f4⟩ := fks h md (disj_spec hdj)
   have hpr := freezes_PRL h harg (fun k hk => hk) hps f3 f4
   refine (hspec w (Av Γ.X β') _ f1.glob hsize hpr f1.Avlt).mono ?_
   rintro e w' ⟨v, rfl, hv, hkp⟩
   exact hk _ _ v w' β' hK (f1.ext hkp) (.pure _ _ hv) (by simp [AV.keys])
theorem callG_sound (hF : FOK F) (h : Rl Γ s a.tmps w β) {o : Oper} {c : Call} (ho : o.op = .call c) {fo : Operand} (hc : c.callee = .value fo) {f : FuncId} {fs cs : List AV} (hf : fnOf (s.geto fo) = some (f, fs, cs)) {K : Kont}
   (hK : callG Γ.P f (fs ++ c.args.toList.map s.geto ++ cs) s Γ.fx K) {next : Act → World → Prop} {Q : Exit → Act → World → Prop}
   (hk : ∀ v acts u w' β', K v acts → Rl Γ (s.acts acts) a.tmps w' β' → AR w' (Av Γ.X β') β' v u → (∀ k ∈ v.keys, k ∈ (s.acts acts).used) → next (a.put o.dst u) w') : o.wpIn F n Γ.P a w next Q := by
 obtain ⟨us, vs, hev, hus, hvs⟩ := fnOf_spec (geto_AR h fo) hf
 obtain ⟨hcall, hcalls⟩ := callG_calls h (vs := us ++ c.args.map a.eval ++ vs) (args_AR h hus hvs).1 (args_AR h hus hvs).2 hK
 refine ⟨fun f _ => hF.fn f, ?_⟩
 rw [Oper.semAt_eq _ _ _ (by rw [ho]; intro c; simp)]
 rw [call_run ho hc hev hcall]
 refine ⟨fun hn => (by rw [hF.depth] at hn; cases hn), hF.calls _ _ _ _ _ _ (hcalls.mono ?_)⟩
 rintro e w' ⟨u, v, acts, β', rfl, hKv, hR, hv, hkv⟩
 exact hk v acts u w' β' hKv hR hv hkv
end
end Go.Avc
/- Operations, regions, code and functions: their conditions suffice. Conditions: none. -/
namespace Go.Avc
open Go.RowKit
def MoreOK0 (more : St → Oper → Kont → Prop) (Γ : Ctx) : Prop :=
 ∀ (F : Fence) (_ : FOK F) (n : Nat) (s : St) (a : Act) (w : World) (β : BM) (o : Oper) (K : Kont), more s o K → Rl Γ s a.tmps w β → dstOk Γ.N o.dst = true →
   ∀ (next : Act → World → Prop) (Q : Exit → Act → World → Prop), (∀ v acts a' w', K v acts → R0 Γ a.defers ((s.acts acts).putD o.dst v) a' w' → next a' w') → o.wpIn F n Γ.P a w next Q
def MoreOK (more : St → Oper → Kont → Prop) (Γ : Ctx) : Prop := ∀ X w β, MoreOK0 more (Γ.here X w β)
theorem MoreOK.none (Γ : Ctx) : MoreOK (fun _ _ _ => False) Γ := fun _ _ _ _ _ _ _ _ _ _ _ _ h => h.elim
section
variable {more : St → Oper → Kont → Prop} {Γ : Ctx} {F : Fence} {n : Nat} {s : St} {a : Act} {w : World} {β : BM}
theorem guardNew_spec {d : Nat} {used fx : List Nat} {p : Prop} (h : guardNew d used fx p) : d ∉ used ∧ d ∉ fx ∧ p := by
 unfold guardNew at h
 split at h
 · rename_i h1
   split at h
   · rename_i h2
     exact ⟨freshIn_spec h1, freshIn_spec h2, h⟩
   · exact h.elim
 · exact h.elim
theorem op_sound0 (hm : MoreOK0 more Γ) (hF : FOK F) (h : Rl Γ s a.tmps w β) {o : Oper} (ho : dstOk Γ.N o.dst = true) {K : Kont} {md : Bool} (hK : opVC md more Γ.P Γ.fx s o K)
   {next : Act → World → Prop} {Q : Exit → Act → World → Prop} (hk : ∀ v acts a' w', K v acts → R0 Γ a.defers ((s.acts acts).putD o.dst v) a' w' → next a' w') : o.wpIn F n Γ.P a w next Q := by
 have hd : a.defers = a.defers := rfl
 have fin : ∀ (S : Sem Value), (execOp a.eval o) = (do pure (.value (← S))) → (∀ c, o.op ≠ .defer c) → Out Γ s a.tmps K (S.run Γ.P w) → o.wpIn F n Γ.P a w next Q := by
   rintro S he hnd ⟨v, acts, u, w', β', hKv, hr, hR, hv, hkv⟩
   refine wpIn_of_run hF hnd (v := u) (w' := w') ?_ (hk v acts _ w' hKv (putD_R hd hR ho hv hkv))
   rw [he, Sem.run_bind, hr, Result.andThen_ok]
   rfl
 unfold opVC at hK
 split at hK
 · rename_i x hx
   rw [force_eq] at hK
   refine wpIn_of_run hF (by rw [hx]; intro c; simp) (v := a.eval x) (w' := w) (by simp [execOp, hx]) (hk _ [] _ w hK (putD_R hd h ho (geto_AR h x) (geto_keys h x)))
 · rename_i x hx
   rw [force_eq] at hK
   refine wpIn_of_run hF (by rw [hx]; intro c; simp) (v := a.eval x) (w' := w) (by simp [execOp, hx]) (hk _ [] _ w hK (putD_R hd h ho (geto_AR h x) (geto_keys h x)))
 · rename_i c x y hx
   unfold opPick at hK
   split at hK
   · rename_i t hc
     have hev : a.eval c = .bool t := by
       have := geto_AR h c
       rw [hc] at this
       exact this.val_inv
     rw [force_eq, force_eq] at hK
     rcases bsel_elim hK with ⟨rfl, hK⟩ | ⟨rfl, hK⟩
     · exact wpIn_of_run hF (by rw [hx]; intro c; simp) (v := a.eval x) (w' := w) (by simp [execOp, hx, hev, asBool]) (hk _ [] _ w hK (putD_R hd h ho (geto_AR h x) (geto_keys h x)))
     · exact wpIn_of_run hF (by rw [hx]; intro c; simp) (v := a.eval y) (w' := w) (by simp [execOp, hx, hev, asBool]) (hk _ [] _ w hK (putD_R hd h ho (geto_AR h y) (geto_keys h y)))
   · exact hK.elim
 · rename_i t hx
   split at hK
   · rename_i d hdd
     obtain ⟨h1, h2, hK⟩ := guardNew_spec hK
     exact fin _ (by simp only [execOp, hx]) (by rw [hx]; intro c; simp) (alloc_sound h h1 h2 hK)
   · exact hK.elim
 · rename_i t x hx
   split at hK
   · rename_i d hdd
     obtain ⟨h1, h2, hK⟩ := guardNew_spec hK
     exact fin _ (by simp only [execOp, hx]) (by rw [hx]; intro c; simp) (box_sound h h1 h2 (geto_AR h x) (geto_keys h x) (opBoxA_old hK))
   · exact hK.elim
 · rename_i t x hx
   exact fin _ (by simp only [execOp, hx]) (by rw [hx]; intro c; simp) ((load_sound h (geto_AR h x) hK).out h)
 · rename_i t x v hx
   obtain ⟨acts, w', β', hKv, hr, hR⟩ := store_sound h (geto_AR h x) (geto_AR h v) (geto_keys h v) (opStoreA_old hK)
   refine wpIn_of_skip hF (by rw [hx]; intro c; simp) (w' := w') ?_ (hk .junk acts _ w' hKv (putD_R hd hR ho (.junk _) (by simp [AV.keys])))
   simp [execOp, hx, hr]
 · rename_i t x f hx
   exact fin _ (by simp only [execOp, hx]) (by rw [hx]; intro c; simp) (fieldAddr_sound h (geto_AR h x) (geto_keys h x) hK)
 · rename_i t x i hx
   exact fin _ (by simp only [execOp, hx]) (by rw [hx]; intro c; simp) (indexAddr_sound h (geto_AR h x) (geto_AR h i) (geto_keys h x) hK)
 · rename_i t x f hx
   exact fin _ (by simp only [execOp, hx]) (by rw [hx]; intro c; simp) (field_sound h (geto_AR h x) (geto_keys h x) hK)
 · rename_i t x i hx
   exact fin _ (by simp only [execOp, hx]) (by rw [hx]; intro c; simp) (index_sound h (geto_AR h x) (geto_AR h i) (geto_keys h x) hK)
 · rename_i op t x y yt hx
   split at hK
   · exact hK.elim
   split at hK
   case h_2 => exact hK.elim
   rename_i hlv
   exact fin (binRun op t x y (a.eval x) (a.eval y)) (by simp only [execOp, hx]; rfl) (by rw [hx]; intro c; simp) (bin_sound h (geto_AR h x) (geto_AR h y) hlv hK)
 · rename_i op t x hx
   exact fin _ (by simp only [execOp, hx]) (by rw [hx]; intro c; simp) (un_sound h (geto_AR h x) hK)
 · rename_i x i hx
   exact fin _ (by simp only [execOp, hx]) (by rw [hx]; intro c; simp) (extract_sound h (geto_AR h x) (geto_keys h x) hK)
 · rename_i f first captured hx
   split at hK
   · rename_i hfirst
     split at hK
     case h_2 => exact hK.elim
     rename_i hfb
     have e1 : first = #[] := Array.toList_inj.1 (by simpa using hfirst)
     subst e1
     refine fin (Instr.makeFunc (.func f) (#[].map a.eval) (captured.map a.eval)) (by simp only [execOp, hx]) (by rw [hx]; intro c; simp) ?_
     refine Out.same h hK (u := .func (.func f) #[] (captured.map a.eval)) (by simp [Instr.makeFunc]) ?_ ?_
     · refine .fn _ _ _ ⟨by simp, by rw [Nat.blt_eq] at hfb; exact hfb⟩ fun j p hj => ?_
       simp only [List.getElem?_map, Option.map_eq_some_iff, Array.getElem?_toList] at hj
       obtain ⟨y, hy, rfl⟩ := hj
       have e : (captured.map a.eval).getD j undef = a.eval y := by rw [Array.getD_eq_getD_getElem?, Array.getElem?_map, hy]; rfl
       rw [e]
       exact geto_AR h y
     · intro k hk
       simp only [AV.keys] at hk
       obtain ⟨x, hx, hkx⟩ := AV.mem_keysL.1 hk
       obtain ⟨y, _, rfl⟩ := List.mem_map.1 hx
       exact geto_keys h y k hkx
   · rename_i x hfirst
     split at hK
     case h_2 => exact hK.elim
     rename_i hcap
     have e1 : first = #[x] := Array.toList_inj.1 (by simpa using hfirst)
     have e2 : captured = #[] := Array.toList_inj.1 (by simpa using hcap)
     subst e1 e2
     refine fin (Instr.makeFunc (.func f) (#[x].map a.eval) (#[].map a.eval)) (by simp only [execOp, hx]) (by rw [hx]; intro c; simp) ?_
     refine Out.same h hK (u := .func (.func f) #[a.eval x] #[]) (by simp [Instr.makeFunc]) (.bm _ f _ _ rfl (geto_AR h x)) ?_
     intro k hk
     simp only [AV.keys, AV.keysL, List.append_nil] at hk
     exact geto_keys h x k hk
   · exact hK.elim
 · rename_i c hx
   split at hK
   · rename_i hc
     split at hK
     · rename_i x t hargs hts
       split at hK
       case h_2 => exact hK.elim
       rename_i hlv
       have e1 : c.args = #[x] := Array.toList_inj.1 (by simpa using hargs)
       have e2 : c.argTypes = #[t] := Array.toList_inj.1 (by simpa using hts)
       refine fin (Builtin.len_ #[t] o.type #[a.eval x]) ?_ (by rw [hx]; intro c; simp) (len_sound h (geto_AR h x) hlv hK)
       simp only [execOp, hx, resolve, hc, e1, e2, invoke, builtin]
       simp
     · exact hK.elim
   · rename_i f hc
     split at hK
     · rename_i g fs cs hg
       split at hK
       · exact call_sound hF h hx hc hg hK fun v acts u w' β' hKv hR hv hkv => hk v acts _ w' hKv (putD_R hd hR ho hv hkv)
       · rcases hK with hK | hK
         · exact call_sound hF h hx hc hg hK fun v acts u w' β' hKv hR hv hkv => hk v acts _ w' hKv (putD_R hd hR ho hv hkv)
         · exact callG_sound hF h hx hc hg hK fun v acts u w' β' hKv hR hv hkv => hk v acts _ w' hKv (putD_R hd hR ho hv hkv)
     · exact hm F hF n s a w β o K hK h ho next Q hk
   · exact hm F hF n s a w β o K hK h ho next Q hk
 · exact hm F hF n s a w β o K hK h ho next Q hk
theorem wanted_of {ops : List Oper} {o : Oper} {j d : Nat} {want b : Bool} (hg : o.guard = some (j, want)) (hj : (nth ops j).bind (·.dst) = some d) (hd : d < a.tmps.size) (hb : a.tmps.getD d undef = .bool b) : Region.wanted o (yielded ops.toArray a.tmps) = (b == want) := by
 rw [nth_eq] at hj
 have : yielded ops.toArray a.tmps j = some b := by
   simp only [yielded, List.getElem?_toArray, hj, Option.bind_some]
   rw [Array.getElem?_eq_getElem hd]
   rw [Array.getD_eq_getD_getElem?, Array.getElem?_eq_getElem hd] at hb
   simp only [Option.getD_some] at hb
   rw [hb]
 simp only [Region.wanted, hg, this]
 cases b <;> cases want <;> rfl
theorem wanted_und {ops : List Oper} {o : Oper} {j d : Nat} {want : Bool} (hg : o.guard = some (j, want)) (hj : (nth ops j).bind (·.dst) = some d) (hd : d < a.tmps.size) (hb : a.tmps.getD d undef = .tuple #[]) : Region.wanted o (yielded ops.toArray a.tmps) = false := by
 rw [nth_eq] at hj
 have : yielded ops.toArray a.tmps j = none := by
   simp only [yielded, List.getElem?_toArray, hj, Option.bind_some]
   rw [Array.getElem?_eq_getElem hd]
   rw [Array.getD_eq_getD_getElem?, Array.getElem?_eq_getElem hd] at hb
   simp only [Option.getD_some] at hb
   rw [hb]
 simp only [Region.wanted, hg, this]
 rfl
theorem Rl.rebase (h : Rl Γ s a.tmps w β) (X : Nat → Prop) (hX : Γ.X = X) : Rl (Γ.here X w β) s a.tmps w β := by
 subst hX
 exact { h with own := fun k bi hb hv => .inr ⟨k, bi, hb, hv, rfl⟩, fixd := fun _ _ => rfl, keep := Kp.refl _ _ }
theorem AV.fz_gh {k : Nat} {c : Blk} {v : AV} {i : Nat} {t : Bool} (h : v.fz k c = .gh i t) : v = .gh i t := by
 cases v with
 | gh => exact h
 | loc k' i' j =>
   cases c with
   | row => simp [AV.fz] at h
   | mp => simp [AV.fz] at h
   | box cs =>
     cases i' with
     | succ => simp [AV.fz] at h
     | zero =>
       simp only [AV.fz] at h
       cases hb : Nat.beq k' k with
       | false => rw [hb] at h; cases h
       | true =>
         rw [hb] at h
         simp only [cond_true] at h
         split at h <;> cases h
 | lsl k' i' n =>
   cases c with
   | box => simp [AV.fz] at h
   | mp => simp [AV.fz] at h
   | row =>
     simp only [AV.fz] at h
     cases hb : Nat.beq k' k with
     | false => rw [hb] at h; cases h
     | true => rw [hb] at h; cases h
 | mp => simp [AV.fz] at h
 | junk => simp [AV.fz] at h
 | pure => simp [AV.fz] at h
 | agg => simp [AV.fz] at h
 | fn => simp [AV.fz] at h
 | tup => simp [AV.fz] at h
theorem freeze_gh {s : St} {k t i : Nat} {b : Bool} (h : (s.freeze k).get t = .gh i b) : s.get t = .gh i b := by
 by_cases hk : FzOK s.blk k
 · obtain ⟨c, h1, h2⟩ := hk
   rw [freeze_ok h1 h2, frzW_get] at h
   exact AV.fz_gh h
 · rwa [freeze_other hk] at h
theorem acts_gh : ∀ {l : List BAct} {s : St} {t i : Nat} {b : Bool}, (s.acts l).get t = .gh i b → s.get t = .gh i b
 | [], _, _, _, _, h => h
 | act :: l, s, t, i, b, h => by
   have := acts_gh (l := l) (s := s.act act) h
   cases act with
   | set => exact this
   | new => exact this
   | kill => exact this
   | frz k => exact freeze_gh this
theorem putD_gh {s : St} {d : Option Tmp} {v : AV} {N i : Nat} {b : Bool} (hd : dstOk N d = true) (h : (s.putD d v).get N = .gh i b) : s.get N = .gh i b := by
 cases d with
 | none => exact h
 | some d =>
   have : d < N := by simpa [dstOk, Nat.blt_eq] using hd
   have hne : ¬ d = N := Nat.ne_of_lt this
   rw [St.putD, St.get_put, if_neg hne] at h
   exact h
theorem R.step {s' : St} {a' : Act} {w' : World} {X : Nat → Prop} (h : Rl (Γ.atX X) s a.tmps w β) (g : Gh Γ X β s a.defers w) (h' : R0 (Γ.here X w β) a.defers s' a' w') (hg : ∀ i t, s'.get Γ.N = .gh i t → s.get Γ.N = .gh i t) : R Γ s' a' w' := by
 obtain ⟨hd, β', h'⟩ := h'
 have hold : ∀ b, b < Γ.w0.heap.size → ¬ Ex Γ.β0 b → ¬ Ex β b := fun b hb he => by
   rintro ⟨k, bi, hk, hv, rfl⟩
   rcases h.own k bi hk hv with h1 | h1
   · have : Γ.w0.heap.size ≤ bi.b := h1
     omega
   · exact he h1
 refine ⟨X, β', ?_, g.sub, g.old, fun hon i t hi => ?_, by rw [hd]; exact g.lone, ?_⟩
 · exact
   { h' with
     own := fun k bi hb hv => by
       rcases h'.own k bi hb hv with h1 | ⟨j, bj, hj, hvj, e⟩
       · exact .inl (Nat.le_trans h.keep.size h1)
       · have := h.own j bj hj hvj
         rwa [e] at this
     fixd := fun k hk => (h'.fixd k hk).trans (h.fixd k hk)
     keep := ⟨h'.keep.os.trans h.keep.os, h'.keep.tape.trans h.keep.tape, h'.keep.output.trans h.keep.output, Nat.le_trans h.keep.size h'.keep.size, fun b hb he => (h'.keep.block b (Nat.lt_of_lt_of_le hb h.keep.size) (hold b hb he)).trans (h.keep.block b hb he)⟩ }
 · refine Γ.y.stable i t X _ _ w w' (g.gh hon i t (hg i t hi)) h'.keep ?_
   rintro b ⟨k, bi, hk, hv, rfl⟩
   exact ⟨(h'.own k bi hk hv).symm, h'.lt k bi hk hv⟩
 · obtain ⟨mk, m1, m2, m3⟩ := g.marks
   refine ⟨mk, hd.trans m1, m2, fun d hm => ?_⟩
   obtain ⟨D, h1, h2, h3, h4⟩ := m3 d hm
   have hlt : D < w.heap.size := (Array.getElem?_eq_some_iff.1 h2).1
   refine ⟨D, h1, (h'.keep.block D hlt ?_).trans h2, h3, h4⟩
   rintro ⟨k, bi, hk, hv, rfl⟩
   exact h.notX k bi hk hv h4
theorem op_sound (hm : MoreOK more Γ) (hF : FOK F) (hR : R Γ s a w) {o : Oper} (ho : dstOk Γ.N o.dst = true) {K : Kont} {md : Bool} (hK : opVC md more Γ.P Γ.fx s o K)
   {next : Act → World → Prop} {Q : Exit → Act → World → Prop} (hk : ∀ v acts a' w', K v acts → R Γ ((s.acts acts).putD o.dst v) a' w' → next a' w') : o.wpIn F n Γ.P a w next Q := by
 obtain ⟨X, β, h, g⟩ := hR
 refine op_sound0 (Γ := Γ.here X w β) (hm X w β) hF (h.rebase X rfl) ho hK fun v acts a' w' hKv h' => hk v acts a' w' hKv (R.step h g h' fun i t hi => acts_gh (putD_gh ho hi))
theorem Rl.others {X X' : Nat → Prop} {w' : World} {tm : Array Value} (h : Rl (Γ.atX X) s tm w β) {E : Nat → Prop} (hk : Kp E w w') (hE : ∀ b, E b → X b) (hx : ∀ b, b < Γ.w0.heap.size → E b → Ex Γ.β0 b)
   (hX' : ∀ b, b < w.heap.size → X' b → X b) (hlt : ∀ b, X' b → b < w'.heap.size) : Rl (Γ.atX X') s tm w' β := by
 have hav : ∀ b, b < w.heap.size → Av X' β b → Av X β b := fun b hb hA => by
   rcases hA with hA | hA
   · exact .inl (hX' b hb hA)
   · exact .inr hA
 have had : Ad w (Av X β) w' (Av X' β) := ⟨hk.size, fun b hb hA => ⟨hk.block b hb fun hx => hA (.inl (hE b hx)), fun hA' => hA (hav b hb hA')⟩⟩
 exact
 { size := h.size
   slots := fun t => (h.slots t).mono had fun _ _ => rfl
   blks := fun k => by
     have hb := h.blks k
     cases hs : s.blk k with
     | none =>
       rw [hs] at hb
       cases hβ : β k with
       | none => trivial
       | some bi => rw [hβ] at hb; exact hb.elim
     | some blk =>
       rw [hs] at hb
       cases hβ : β k with
       | none => rw [hβ] at hb; exact hb.elim
       | some bi =>
         rw [hβ] at hb
         exact BOK.mono had hb (fun _ _ => rfl) fun hv => hk.block _ (h.lt k bi hβ hv) fun he => h.notX k bi hβ hv (hE _ he)
   inj := h.inj
   lt := fun k bi hb hv => Nat.lt_of_lt_of_le (h.lt k bi hb hv) hk.size
   notX := fun k bi hb hv hx => h.notX k bi hb hv (hX' _ (h.lt k bi hb hv) hx)
   own := h.own
   fixd := h.fixd
   used1 := h.used1
   used2 := h.used2
   keep := ⟨hk.os.trans h.keep.os, hk.tape.trans h.keep.tape, hk.output.trans h.keep.output, Nat.le_trans h.keep.size hk.size, fun b hb he => (hk.block b (Nat.lt_of_lt_of_le hb h.keep.size) fun hx' => he (hx b hb hx')).trans (h.keep.block b hb he)⟩
   Xlt := hlt
   glob := h.glob.mono had }
theorem Rl.putG {tm : Array Value} (h : Rl Γ s tm w β) (i : Nat) (t : Bool) : Rl Γ (s.put Γ.N (.gh i t)) tm w β :=
 { h with
   slots := fun j => by
     rw [St.get_put]
     by_cases e : Γ.N = j
     · rw [if_pos e]; exact .gh _ _ _
     · rw [if_neg e]; exact h.slots j
   used1 := fun j k hk => by
     rw [St.get_put] at hk
     by_cases e : Γ.N = j
     · rw [if_pos e] at hk; simp [AV.keys] at hk
     · rw [if_neg e] at hk; exact h.used1 j k hk }
theorem isYld_spec {o : Oper} {l : Nat} {args : List Operand} (h : isYld s o = some (l, args)) : ∃ c fo, o.op = .call c ∧ c.callee = .value fo ∧ s.geto fo = .pure (.val (.func (.yield l) #[] #[])) ∧ args = c.args.toList := by
 unfold isYld at h
 split at h
 · rename_i c hc
   split at h
   · rename_i fo hfo
     split at h
     · rename_i l' x y hg
       split at h
       · rename_i hx hy
         cases h
         have e1 : x = #[] := Array.toList_inj.1 (by simpa using hx)
         have e2 : y = #[] := Array.toList_inj.1 (by simpa using hy)
         subst e1; subst e2
         exact ⟨c, fo, hc, hfo, hg, rfl⟩
       · cases h
     · cases h
   · cases h
 · cases h
theorem yld_sound (hF : FOK F) (hR : R Γ s a w) {o : Oper} {l : Nat} {args : List Operand} {d : Tmp} (hy : isYld s o = some (l, args)) (ho : o.dst = some d) {C : St → Prop} {md : Bool} (hK : yldVC md Γ.y Γ.N Γ.fx s l args d C)
   {next : Act → World → Prop} {Q : Exit → Act → World → Prop} (hk : ∀ s' a' w', C s' → R Γ s' a' w' → next a' w') : o.wpIn F n Γ.P a w next Q := by
 unfold yldVC at hK
 split at hK
 · exact hK.elim
 split at hK
 · exact hK.elim
 rename_i hdN
 have hdN : d < Γ.N := by simpa [Nat.blt_eq] using hdN
 split at hK
 case h_2 => exact hK.elim
 rename_i i hgi
 split at hK
 case h_2 => exact hK.elim
 rename_i ps hps
 obtain ⟨hdj, rfl, hon, ⟨row, hrow, hsub⟩, hK⟩ := hK
 obtain ⟨c, fo, hop, hcal, hval, rfl⟩ := isYld_spec hy
 obtain ⟨X, β, h, g⟩ := hR
 have hX := Γ.hy hon
 obtain ⟨β1, f1, f2, f3, f4⟩ := freezes h (l := AV.keysL (c.args.toList.map s.geto)) (disj_spec hdj)
 have harg := (args_AR (Γ := Γ.atX X) h (c := c) (fs := []) (us := #[]) (cs := []) (vs := #[]) ⟨rfl, fun j p hj => by simp at hj⟩ ⟨rfl, fun j p hj => by simp at hj⟩).2
 simp only [List.append_nil, Array.append_empty, List.nil_append, Array.empty_append] at harg
 have hpr := freezes_PRL h harg (fun k hk => hk) hps f3 f4
 have hev : a.eval fo = .func (.yield Γ.y.l) #[] #[] := by
   have := geto_AR h fo
   rw [hval] at this
   exact this.val_inv
 obtain ⟨sl, sg⟩ := hsub.get
 have hpl := (toPVL_some hps).1
 have hJ1 : Γ.y.J i false X (Ex β1) w := Γ.y.stable i false X _ _ w w (g.gh hon i false hgi) (Kp.refl _ _) (by
   rintro b ⟨k, bi, hk, hv, rfl⟩
   exact ⟨.inl ⟨k, bi, f3 k bi hk, hv, rfl⟩, f1.lt k bi hk hv⟩)
 have hround := Γ.y.round i row X (Ex β1) w (c.args.map a.eval) hon hrow hJ1 h.Xlt (by simp at hpl ⊢; omega) (fun j q hj => by
   obtain ⟨p, hp, hpq⟩ := sg j q hj
   exact hpq _ _ _ (hpr j p hp))
 obtain ⟨fn, tmps, assign, body, hrun, hrd⟩ := hround
 refine ⟨fun f _ => hF.fn f, ?_⟩
 rw [Oper.semAt_eq _ _ _ (by rw [hop]; intro c; simp)]
 have hexec : (execOp a.eval o).run Γ.P w = .ok (.round Γ.y.l fn tmps assign body) w := by
   simp only [execOp, hop, resolve, hcal, hev, Deferred.ofValue, Sem.run_bind, Sem.run_pure, Result.andThen_ok, invoke, Array.empty_append]
   exact hrun
 rw [hexec, Oper.uponIn_round]
 refine ⟨fun hn => (by rw [hF.depth] at hn; cases hn), hF.rounds _ _ _ _ _ _ _ _ _ (hrd.mono ?_)⟩
 rintro e w' ⟨t, rfl, hJ, hkp⟩
 have hx : ∀ b, b < Γ.w0.heap.size → X b → Ex Γ.β0 b := fun b hb hb' => hX b (g.old b hb hb')
 have r1 := f1.others (Γ := Γ) (X' := fun b => X b ∨ (w.heap.size ≤ b ∧ b < w'.heap.size)) hkp (fun _ h => h) hx (fun b hb h => by rcases h with h | ⟨h, _⟩; exact h; omega) (fun b h => by rcases h with h | ⟨_, h⟩; exact Nat.lt_of_lt_of_le (f1.Xlt b h) hkp.size; exact h)
 have r2 := (r1.putG (i + 1) t).put (d := d) (v := .bool !t) (u := .bool !t) hdN (.pure _ _ (.val _)) (by simp [AV.keys])
 rw [actsC_eq] at hK
 have hgh : Gh Γ (fun b => X b ∨ (w.heap.size ≤ b ∧ b < w'.heap.size)) β1 (((s.acts (frzs (AV.keysL (c.args.toList.map s.geto)))).put Γ.N (.gh (i + 1) t)).put d (.bool !t)) a.defers w' :=
 { sub := fun b hb => .inl (g.sub b hb)
   old := fun b hb hb' => by
     rcases hb' with hb' | ⟨hb', _⟩
     · exact g.old b hb hb'
     · have : Γ.w0.heap.size ≤ w.heap.size := h.keep.size
       omega
   lone := g.lone
   gh := fun _ j t' hj => by
     rw [St.get_put, if_neg (Nat.ne_of_lt hdN), St.get_put, if_pos rfl] at hj
     cases hj
     exact hJ
   marks := by
     obtain ⟨mk, m1, m2, m3⟩ := g.marks
     rw [g.lone hon] at m1
     have e1 : mk = [] := (List.append_eq_nil_iff.1 m1.symm).1
     subst e1
     exact ⟨[], by rw [g.lone hon]; exact m1, m2, fun d' hd' => by cases hd'⟩ }
 have hfin : C (((s.acts (frzs (AV.keysL (c.args.toList.map s.geto)))).put Γ.N (.gh (i + 1) t)).put d (.bool !t)) := by
   generalize s.acts (frzs (AV.keysL (c.args.toList.map s.geto))) = s1 at hK
   obtain ⟨e, b, u⟩ := s1
   cases t
   · exact hK.1
   · exact hK.2
 refine hk _ _ _ hfin ⟨fun b => X b ∨ (w.heap.size ≤ b ∧ b < w'.heap.size), β1, ?_, ?_⟩
 · rw [ho]; exact r2
 · rw [ho]; exact hgh
theorem R.putU {X : Nat → Prop} {d : Option Tmp} (h : Rl (Γ.atX X) s a.tmps w β) (g : Gh Γ X β s a.defers w) (ho : dstOk Γ.N d = true) : R Γ (s.putD d und) (a.put d undef) w := by
 cases d with
 | none => exact ⟨X, β, h, g⟩
 | some d =>
   exact ⟨X, β, h.put (by simpa [dstOk, Nat.blt_eq] using ho) (.pure _ _ (.val _)) (by simp [AV.keys, und]), g.sub, g.old, fun hon i t hi => g.gh hon i t (putD_gh (d := some d) (v := und) ho hi), g.lone, g.marks⟩
theorem opK0_sound (hm : MoreOK more Γ) (hF : FOK F) (hR : R Γ s a w) {o : Oper} (hok : dstOk Γ.N o.dst = true) {C : St → Prop} (hv : opK0 false more Γ.y Γ.N Γ.fx s o C)
   {next : Act → World → Prop} {Q : Exit → Act → World → Prop} (hK' : ∀ s' a' w', C s' → R Γ s' a' w' → next a' w') : o.wpIn F n Γ.P a w next Q := by
 unfold opK0 at hv
 split at hv
 · rename_i l' args hy
   split at hv
   · rename_i d hd
     exact yld_sound hF hR hy hd hv hK'
   · exact hv.elim
 · refine op_sound hm hF hR hok hv fun v acts a' w' hKv hR' => ?_
   rw [actsC_eq, putC_eq] at hKv
   exact hK' _ _ _ hKv hR'
theorem callX_sound (hF : FOK F) (hR : R Γ s a w) {o : Oper} {c : Call} (hop : o.op = .call c) {fo : Operand} (hcal : c.callee = .value fo) {f : FuncId} {fs cs : List AV} (hf : fnOf (s.geto fo) = some (f, fs, cs)) {v : Value} {D : St → Prop}
   (hv : callX Γ.P v f (fs ++ c.args.toList.map s.geto ++ cs) s Γ.fx D) {next : Act → World → Prop} {Q : Exit → Act → World → Prop} (hE : ∀ s' a' w', D s' → R Γ s' a' w' → Q (.panic [{ v := v, recovered := false }]) a' w') : o.wpIn F n Γ.P a w next Q := by
 obtain ⟨X, β, h, g⟩ := hR
 have h' := h.rebase X rfl
 obtain ⟨us, vs, hev, hus, hvs⟩ := fnOf_spec (geto_AR h' fo) hf
 obtain ⟨hcall, hcalls⟩ := callX_calls h' (vs := us ++ c.args.map a.eval ++ vs) (args_AR h' hus hvs).1 (args_AR h' hus hvs).2 hv
 refine ⟨fun f _ => hF.fn f, ?_⟩
 rw [Oper.semAt_eq _ _ _ (by rw [hop]; intro c; simp)]
 have hrun := call_run (Γ := Γ) (a := a) (w := w) hop hcal hev hcall
 rw [hrun, Oper.uponIn_enter]
 refine ⟨fun hn => (by rw [hF.depth] at hn; cases hn), hF.calls _ _ _ _ _ _ (hcalls.mono ?_)⟩
 rintro e w' ⟨rfl, acts, β', hD, hR'⟩
 exact hE _ a w' hD (R.step h g ⟨rfl, β', hR'⟩ fun i t hi => acts_gh hi)
theorem opK_sound (hm : MoreOK more Γ) (hF : FOK F) (hR : R Γ s a w) {o : Oper} (hok : dstOk Γ.N o.dst = true) {C : St → Prop} (hv : opK false more Γ.pk Γ.y Γ.N Γ.fx s o C)
   {next : Act → World → Prop} {Q : Exit → Act → World → Prop} (hK' : ∀ s' a' w', C s' → R Γ s' a' w' → next a' w') (hE : ∀ e s' a' w', EscS Γ e s' → R Γ s' a' w' → Q e a' w') : o.wpIn F n Γ.P a w next Q := by
 unfold opK at hv
 split at hv
 · exact opK0_sound hm hF hR hok hv hK'
 rename_i v D hpk
 split at hv
 · rename_i x hx
   split at hv
   case h_2 => exact hv.elim
   rename_i T u
   obtain ⟨hv, hD⟩ := hv
   have hev : a.eval x = .iface T u := by
     obtain ⟨X, β, h, g⟩ := hR
     have := geto_AR h x
     rw [show s.geto x = .pure (.val (.iface T u)) from hv] at this
     exact this.val_inv
   refine ⟨fun f _ => hF.fn f, ?_⟩
   rw [Oper.semAt_eq _ _ _ (by rw [hx]; intro c; simp)]
   have hrun : (execOp a.eval o).run Γ.P w = .halt (.panic (.iface T u)) w := by
     simp only [execOp, hx, hev, Instr.panic]
     rfl
   rw [hrun, Oper.uponIn_panic]
   exact hE _ s a w ⟨_, D, hpk, rfl, hD⟩ hR
 · rename_i c hc
   split at hv
   · rename_i fo hfo
     split at hv
     · rename_i f fs cs hf
       rcases hv with hv | hv
       · exact callX_sound hF hR hc hfo hf hv fun s' a' w' hD hR' => hE _ s' a' w' ⟨v, D, hpk, rfl, hD⟩ hR'
       · exact opK0_sound hm hF hR hok hv hK'
     · exact opK0_sound hm hF hR hok hv hK'
   · exact opK0_sound hm hF hR hok hv hK'
 · exact opK0_sound hm hF hR hok hv hK'
theorem ops_sound (hm : MoreOK more Γ) (hF : FOK F) {ops : List Oper} {K : St → Prop} {Q : Exit → Act → World → Prop} : ∀ {l : List Oper} {s : St} {a : Act} {w : World}, opsVC false more Γ.P Γ.pk Γ.y Γ.N Γ.fx ops l s K → R Γ s a w →
   (∀ s' a' w', K s' → R Γ s' a' w' → Q .normal a' w') → (∀ e s' a' w', EscS Γ e s' → R Γ s' a' w' → Q e a' w') → wpListIn F n Γ.P ops.toArray Q l a w
 | [], s, a, w, hv, hR, hQ, hE => hQ s a w hv hR
 | o :: l, s, a, w, hv, hR, hQ, hE => by
   have opk : ∀ {s : St} {K' : Act → World → Prop} {C : St → Prop}, R Γ s a w → dstOk Γ.N o.dst = true → opK false more Γ.pk Γ.y Γ.N Γ.fx s o C → (∀ s' a' w', C s' → R Γ s' a' w' → K' a' w') → o.wpIn F n Γ.P a w K' Q := fun {s K' C} hR hok hv hK' => opK_sound hm hF hR hok hv hK' hE
   change opsStep false more Γ.P Γ.pk Γ.y Γ.N Γ.fx ops o (opsVC false more Γ.P Γ.pk Γ.y Γ.N Γ.fx ops l) s K at hv
   unfold opsStep at hv
   split at hv
   · exact hv.elim
   rename_i hok
   split at hv
   · rename_i hg
     refine wpListIn_plain hg fun K' hK' => ?_
     exact opk hR hok hv fun s' a' w' hC hR' => hK' _ _ (ops_sound hm hF hC hR' hQ hE)
   · rename_i j want hg
     split at hv
     · exact hv.elim
     rename_i d hdst
     split at hv
     · exact hv.elim
     rename_i hdN
     split at hv
     case h_3 => exact hv.elim
     case h_2 =>
       rename_i arr hb
       split at hv
       case h_2 => exact hv.elim
       rename_i ha
       have ha : arr = #[] := Array.toList_inj.1 (by simpa using ha)
       subst ha
       obtain ⟨X, β, h, g⟩ := hR
       have hdlt : d < Γ.N := by simpa [Nat.blt_eq] using hdN
       have hdl : d < a.tmps.size := by rw [h.size]; exact hdlt
       have hev : a.tmps.getD d undef = .tuple #[] := by
         have := h.slots d
         rw [hb] at this
         exact this.val_inv
       refine wpListIn_step fun K' hK' => ?_
       rw [wanted_und (a := a) hg hdst hdl hev]
       simp only [Bool.false_eq_true, if_false]
       rw [putC_eq] at hv
       exact ⟨fun f _ => hF.fn f, hK' _ _ (ops_sound hm hF hv (R.putU h g hok) hQ hE)⟩
     rename_i b hb
     obtain ⟨X, β, h, g⟩ := hR
     have hdlt : d < Γ.N := by simpa [Nat.blt_eq] using hdN
     have hdl : d < a.tmps.size := by rw [h.size]; exact hdlt
     have hev : a.tmps.getD d undef = .bool b := by
       have := h.slots d
       rw [hb] at this
       exact this.val_inv
     have hwant := wanted_of (a := a) hg hdst hdl hev
     -- the slot holds what it holds
     have hput : ∀ t : Bool, b = t → R Γ (s.put d (.bool t)) a w := fun t ht => by
       have := h.put (v := .bool t) (u := .bool t) hdlt (.pure _ _ (.val _)) (by simp [AV.keys])
       have e : a.tmps.setIfInBounds d (.bool t) = a.tmps := by
         apply Array.ext (by simp)
         intro y hy hy'
         rw [Array.getElem_setIfInBounds hy']
         split
         · rename_i e
           subst e
           rw [Array.getD_eq_getD_getElem?, Array.getElem?_eq_getElem hdl] at hev
           simp only [Option.getD_some] at hev
           rw [hev, ht]
         · rfl
       rw [e] at this
       exact ⟨X, β, this, g.sub, g.old, fun hon i t hi => g.gh hon i t (by rw [St.get_put, if_neg (Nat.ne_of_lt hdlt)] at hi; exact hi), g.lone, g.marks⟩
     have skip : ∀ t : Bool, b = t → (b == want) = false → (putC (s.put d (.bool t)) o.dst und fun s'' => opsVC false more Γ.P Γ.pk Γ.y Γ.N Γ.fx ops l s'' K) → wpListIn F n Γ.P ops.toArray Q (o :: l) a w := fun t ht hw hv => by
       refine wpListIn_step fun K' hK' => ?_
       rw [hwant, hw]
       simp only [Bool.false_eq_true, if_false]
       rw [putC_eq] at hv
       refine ⟨fun f _ => hF.fn f, hK' _ _ (ops_sound hm hF hv ?_ hQ hE)⟩
       obtain ⟨X, β, h, g⟩ := hput t ht
       exact R.putU h g hok
     have run : ∀ t : Bool, b = t → (b == want) = true → (opK false more Γ.pk Γ.y Γ.N Γ.fx (s.put d (.bool t)) o fun s'' => opsVC false more Γ.P Γ.pk Γ.y Γ.N Γ.fx ops l s'' K) → wpListIn F n Γ.P ops.toArray Q (o :: l) a w := fun t ht hw hv => by
       refine wpListIn_step fun K' hK' => ?_
       rw [hwant, hw]
       simp only [if_true]
       exact opk (hput t ht) hok hv fun s' a' w' hC hR' => hK' _ _ (ops_sound hm hF hC hR' hQ hE)
     obtain ⟨e, bl, u⟩ := s
     rcases bsel_elim hv with ⟨e0, hv2⟩ | ⟨e0, hv2⟩
     · cases want with
       | true => exact run true e0 (by rw [e0]; rfl) hv2
       | false => exact skip true e0 (by rw [e0]; rfl) hv2
     · cases want with
       | true => exact skip false e0 (by rw [e0]; rfl) hv2
       | false => exact run false e0 (by rw [e0]; rfl) hv2
theorem Wp.mono {c : Code} {K K' : Exit → St → Prop} (h : Wp Γ F n c s K) (hk : ∀ e s, K e s → K' e s) : Wp Γ F n c s K' :=
 fun a w hR => wpIn_mono (h a w hR) fun e _ _ ⟨s', h1, h2⟩ => ⟨s', h1.imp (hk e s') id, h2⟩
theorem stepR_scope {P : Program} {b : Frame} {a : Act} {k : List Item} {cs : List Frame} {w : World} {c : Code} : step P (lone (b.atR a (.code (.scope c) :: k)) cs w) = .next (lone (b.atR a (.code c :: .inScope c :: k)) cs w) :=
 step_lone_go (by simp [stepG, stepG.exec, Frame.atR])
theorem stepR_inScope {P : Program} {b : Frame} {a : Act} {k : List Item} {cs : List Frame} {w : World} {c : Code} : step P (lone (b.atR a (.inScope c :: k)) cs w) = .next (lone (b.atR a k) cs w) :=
 step_lone_go (by simp [stepG, stepG.exec, Frame.atR])
theorem wpIn_scope {P : Program} {Q : Exit → Act → World → Prop} {c : Code} (h : c.wpIn F n P (Exit.noGoto Q) a w) : (Code.scope c).wpIn F n P Q a w := by
 intro b k cs hro hb hr
 have h0 : (lone (b.atR a (.code (.scope c) :: k)) cs w).fenced P F := fenced_calm hb hr rfl
 obtain ⟨e, a₁, w₁, hq, harr⟩ := h b (.inScope c :: k) cs hro hb hr
 cases e with
 | normal => exact ⟨.normal, a₁, w₁, hq, .head h0 stepR_scope (StepsIn.trans harr (.one (fenced_calm hb hr rfl) stepR_inScope))⟩
 | exit id =>
   have hx : exitTo id (.inScope c :: k) = exitTo id k := by simp [exitTo]
   exact ⟨.exit id, a₁, w₁, hq, fun k' hk => .head h0 stepR_scope (harr.1 k' (by rw [hx]; exact hk)),
     fun hr' hk => let ⟨k₁, h1, h2⟩ := harr.2 hr' (by rw [hx]; exact hk); ⟨k₁, h1, .head h0 stepR_scope h2⟩⟩
 | goto l => exact hq.elim
 | ret => exact ⟨_, a₁, w₁, hq, .of_steps (.one h0 stepR_scope) harr⟩
 | panic ch => exact ⟨_, a₁, w₁, hq, .of_steps (.one h0 stepR_scope) harr⟩
 | outgrown => exact ⟨_, a₁, w₁, hq, .of_steps (.one h0 stepR_scope) harr⟩
theorem code_sound (hm : MoreOK more Γ) (hF : FOK F) (c : Code) : ∀ {s : St} {K : Exit → St → Prop}, vcCode more Γ F n c s K → Wp Γ F n c s K := by
 induction c with
 | skip => exact fun {s K} h a w hR => wpIn_skip ⟨s, .inl h, hR⟩
 | region id ops d =>
   intro s K h
   cases d with
   | false =>
     intro a w hR
     refine wpIn_region_list ?_
     have := ops_sound (n := n) hm hF (Q := fun e a' w' => ∃ s', (K e s' ∨ EscS Γ e s') ∧ R Γ s' a' w') h hR (fun s' a' w' h1 h2 => ⟨s', .inl h1, h2⟩) fun e s' a' w' h1 h2 => ⟨s', .inr h1, h2⟩
     simpa using this
   | true => exact h
 | seq x y ihx ihy =>
   intro s K h a w hR
   refine wpIn_seq (wpIn_mono (ihx (K := seqK (vcCode more Γ F n y) K) h a w hR) ?_)
   rintro e a' w' ⟨s', h1 | hE, h2⟩
   case inr =>
     obtain ⟨v, D, hpk, rfl, hD⟩ := hE
     exact ⟨s', .inr ⟨v, D, hpk, rfl, hD⟩, h2⟩
   cases e with
   | normal => exact ihy h1 a' w' h2
   | exit id => exact ⟨s', .inl h1, h2⟩
   | goto l => exact ⟨s', .inl h1, h2⟩
   | ret => exact ⟨s', .inl h1, h2⟩
   | panic c => exact ⟨s', .inl h1, h2⟩
   | outgrown => exact ⟨s', .inl h1, h2⟩
 | cond c x y ihx ihy =>
   intro s K h
   change condC (s.geto c) (vcCode more Γ F n x s K) (vcCode more Γ F n y s K) at h
   unfold condC at h
   split at h
   case h_2 => exact h.elim
   rename_i t ht
   intro a w hR
   have hev : a.eval c = .bool t := by
     obtain ⟨X, β, hr, _⟩ := hR
     have := geto_AR hr c
     rw [ht] at this
     exact this.val_inv
   refine wpIn_cond hev ?_
   rcases bsel_elim h with ⟨rfl, h⟩ | ⟨rfl, h⟩
   · exact ihx h a w hR
   · exact ihy h a w hR
 | block id c ih =>
   intro s K h a w hR
   refine wpIn_block (wpIn_mono (ih (K := blockK id K) h a w hR) ?_)
   rintro e a' w' ⟨s', h1 | hE, h2⟩
   case inr =>
     obtain ⟨v, D, hpk, rfl, hD⟩ := hE
     exact ⟨s', .inr ⟨v, D, hpk, rfl, hD⟩, h2⟩
   cases e with
   | normal => exact ⟨s', .inl h1, h2⟩
   | exit id' =>
     simp only [blockK, beq_eq_decide] at h1
     by_cases e : id' = id
     · simp only [e, decide_true, cond_true] at h1
       simp only [Exit.inBlock, e, if_true]
       exact ⟨s', .inl h1, h2⟩
     · simp only [e, decide_false, cond_false] at h1
       simp only [Exit.inBlock, e, if_false]
       exact ⟨s', .inl h1, h2⟩
   | goto l => exact ⟨s', .inl h1, h2⟩
   | ret => exact ⟨s', .inl h1, h2⟩
   | panic c => exact ⟨s', .inl h1, h2⟩
   | outgrown => exact ⟨s', .inl h1, h2⟩
 | exit id => exact fun {s K} h a w hR => wpIn_exit ⟨s, .inl h, hR⟩
 | ret => exact fun {s K} h a w hR => wpIn_ret ⟨s, .inl h, hR⟩
 | label l => exact fun {s K} h a w hR => wpIn_label ⟨s, .inl h, hR⟩
 | loop _ _ => exact fun {s K} h => h
 | rangeFunc _ _ _ _ _ _ => exact fun {s K} h => h
 | scope body ih =>
   intro s K h a w hR
   refine wpIn_scope (wpIn_mono (ih (K := scopeK K) h a w hR) ?_)
   rintro e a' w' ⟨s', h1 | hE, h2⟩
   case inr =>
     obtain ⟨v, D, hpk, rfl, hD⟩ := hE
     exact ⟨s', .inr ⟨v, D, hpk, rfl, hD⟩, h2⟩
   cases e with
   | normal => exact ⟨s', .inl h1, h2⟩
   | exit id => exact ⟨s', .inl h1, h2⟩
   | goto l => exact h1.elim
   | ret => exact ⟨s', .inl h1, h2⟩
   | panic c => exact ⟨s', .inl h1, h2⟩
   | outgrown => exact ⟨s', .inl h1, h2⟩
 | goto _ => exact fun {s K} h => h
 | refuse _ => exact fun {s K} h => h
end
end Go.Avc
/- Loops, weakening of states, functions. Conditions: none. -/
namespace Go.Avc
open Go.RowKit
def SubA (B : Nat → Option Blk) (v v' : AV) : Prop :=
 v = v' ∨ v' = .junk ∨ (∃ p q, toPV (fun _ => none) v = some p ∧ v' = .pure q ∧ PSub p q) ∨ (∃ k, v = .pure (.val (.slice none 0 0)) ∧ v' = .lsl k 0 0 ∧ (B k).isSome = true)
def SubAL (B : Nat → Option Blk) : List AV → List AV → Prop
 | [], [] => True
 | a :: l, b :: m => SubA B a b ∧ SubAL B l m
 | _, _ => False
theorem SubAL.get {B : Nat → Option Blk} : ∀ {l m : List AV}, SubAL B l m → l.length = m.length ∧ ∀ (j : Nat) (q : AV), m[j]? = some q → ∃ p, l[j]? = some p ∧ SubA B p q
 | [], [], _ => ⟨rfl, fun j q h => by simp at h⟩
 | p :: l, q :: m, h => by
   obtain ⟨h1, h2⟩ := h
   obtain ⟨h3, h4⟩ := SubAL.get h2
   refine ⟨by simp [h3], fun j r hj => ?_⟩
   cases j with
   | zero => simp at hj; subst hj; exact ⟨p, by simp, h1⟩
   | succ j => simpa using h4 j r (by simpa using hj)
 | [], _ :: _, h => h.elim
 | _ :: _, [], h => h.elim
def BSub (B : Nat → Option Blk) (b : Option Blk) : Blk → Prop
 | .row sz rows => b = some (.row sz rows)
 | .mp es => b = some (.mp es)
 | .box cells' => ∃ cells, b = some (.box cells) ∧ SubAL B cells cells'
def checkE (s : St) (B : Nat → Option Blk) : List (Nat × AV) → Prop
 | [] => True
 | (t, v) :: l => SubA B (s.get t) v ∧ checkE s B l
def checkB (s : St) (B : Nat → Option Blk) : List (Nat × Option Blk) → Prop
 | [] => True
 | (k, some b) :: l => BSub B (s.blk k) b ∧ checkB s B l
 | (_, none) :: l => checkB s B l
def keysE : List (Nat × AV) → List Nat
 | [] => []
 | (_, v) :: l => v.keys ++ keysE l
def keysB : List (Nat × Option Blk) → List Nat
 | [] => []
 | (k, some b) :: l => k :: b.keys ++ keysB l
 | (_, none) :: l => keysB l
def subB : List Nat → List Nat → Bool
 | [], _ => true
 | k :: l, m => bif freshIn k m then false else subB l m
def liveAll (s : St) : List Nat → Bool
 | [] => true
 | k :: l => bif (s.blk k).isSome then liveAll s l else false
def Le (Γ : Ctx) (s s' : St) : Prop := ∀ a w, R Γ s a w → R Γ s' a w
theorem Le.refl (Γ : Ctx) (s : St) : Le Γ s s := fun _ _ h => h
theorem Le.trans {Γ : Ctx} {a b c : St} (h : Le Γ a b) (k : Le Γ b c) : Le Γ a c := fun x w hr => k x w (h x w hr)
theorem freshIn_not {d : Nat} : ∀ {l : List Nat}, freshIn d l = false → d ∈ l
 | [], h => by cases h
 | k :: l, h => by
   simp only [freshIn, beq_eq_decide] at h
   by_cases e : d = k
   · subst e; exact List.mem_cons_self
   · simp only [e, decide_false, cond_false] at h
     exact List.mem_cons_of_mem _ (freshIn_not h)
theorem subB_spec : ∀ {l m : List Nat}, subB l m = true → ∀ k ∈ l, k ∈ m
 | [], _, _, k, hk => by cases hk
 | a :: l, m, h, k, hk => by
   simp only [subB] at h
   cases ha : freshIn a m with
   | true => rw [ha] at h; cases h
   | false =>
     rw [ha] at h
     rcases List.mem_cons.1 hk with rfl | hk
     · exact freshIn_not ha
     · exact subB_spec (by simpa using h) k hk
theorem liveAll_spec {s : St} : ∀ {l : List Nat}, liveAll s l = true → ∀ k ∈ l, (s.blk k).isSome = true
 | [], _, k, hk => by cases hk
 | a :: l, h, k, hk => by
   simp only [liveAll] at h
   cases ha : (s.blk a).isSome with
   | false => rw [ha] at h; cases h
   | true =>
     rw [ha] at h
     rcases List.mem_cons.1 hk with rfl | hk
     · exact ha
     · exact liveAll_spec (by simpa using h) k hk
theorem checkE_get {s : St} {B : Nat → Option Blk} : ∀ {l : List (Nat × AV)}, checkE s B l → ∀ t v, lk l t = some v → SubA B (s.get t) v ∧ ∀ k ∈ v.keys, k ∈ keysE l
 | [], _, t, v, h => by cases h
 | (d, x) :: l, hc, t, v, h => by
   rw [lk_cons] at h
   split at h
   · rename_i e; subst e; cases h
     exact ⟨hc.1, fun k hk => by simp only [keysE]; exact List.mem_append_left _ hk⟩
   · obtain ⟨h1, h2⟩ := checkE_get hc.2 t v h
     exact ⟨h1, fun k hk => by simp only [keysE]; exact List.mem_append_right _ (h2 k hk)⟩
theorem checkB_get {s : St} {B : Nat → Option Blk} : ∀ {l : List (Nat × Option Blk)}, checkB s B l → ∀ k b, lk l k = some (some b) → BSub B (s.blk k) b ∧ k ∈ keysB l ∧ ∀ k' ∈ b.keys, k' ∈ keysB l
 | [], _, k, b, h => by cases h
 | (d, none) :: l, hc, k, b, h => by
   rw [lk_cons] at h
   split at h
   · cases h
   · exact checkB_get (l := l) hc k b h
 | (d, some x) :: l, hc, k, b, h => by
   rw [lk_cons] at h
   split at h
   · rename_i e; subst e; cases h
     exact ⟨hc.1, by simp [keysB], fun k' hk' => by simp only [keysB, List.cons_append]; exact List.mem_cons_of_mem _ (List.mem_append_left _ hk')⟩
   · obtain ⟨h1, h2, h3⟩ := checkB_get hc.2 k b h
     exact ⟨h1, by simp only [keysB, List.cons_append]; exact List.mem_cons_of_mem _ (List.mem_append_right _ h2), fun k' hk' => by simp only [keysB, List.cons_append]; exact List.mem_cons_of_mem _ (List.mem_append_right _ (h3 k' hk'))⟩
theorem Le.of {Γ : Ctx} {s s' : St} (hE : checkE s s'.blk s'.env) (hB : checkB s s'.blk s'.blks) (hu1 : subB (keysE s'.env) s'.used = true) (hu2 : subB (keysB s'.blks) s'.used = true) (hfx : liveAll s' Γ.fx = true) : Le Γ s s' := by
 rintro a w ⟨X, β, h, g⟩
 refine ⟨X, fun k => if (s'.blk k).isSome = true then β k else none, ?_⟩
 generalize hβ' : (fun k => if (s'.blk k).isSome = true then β k else none) = β'
 have e1 : ∀ k, (s'.blk k).isSome = true → β' k = β k := fun k hk => by rw [← hβ']; simp [hk]
 have e2 : ∀ k, s'.blk k = none → β' k = none := fun k hk => by rw [← hβ']; simp [hk]
 have e3 : ∀ j bj, β' j = some bj → β j = some bj ∧ (s'.blk j).isSome = true := fun j bj hj => by
   cases hs : s'.blk j with
   | none => rw [e2 j hs] at hj; cases hj
   | some b => rw [e1 j (by rw [hs]; rfl)] at hj; exact ⟨hj, rfl⟩
 have hblk : ∀ k b, s'.blk k = some b → BSub s'.blk (s.blk k) b ∧ k ∈ keysB s'.blks ∧ ∀ k' ∈ b.keys, k' ∈ keysB s'.blks := fun k b hb => by
   simp only [St.blk] at hb
   refine checkB_get hB k b ?_
   cases hl : lk s'.blks k with
   | none => rw [hl] at hb; cases hb
   | some x => rw [hl] at hb; simp only [Option.join_some] at hb; rw [hb]
 have had : Ad w (Av X β) w (Av X β') := ⟨Nat.le_refl _, fun b _ hA => ⟨rfl, fun hA' => hA (by
   rcases hA' with hx | ⟨j, bj, hj, hv, hb⟩
   · exact .inl hx
   · exact .inr ⟨j, bj, (e3 j bj hj).1, hv, hb⟩)⟩⟩
 have arm : ∀ {p : AV} {v : Value}, AR w (Av X β) β p v → AR w (Av X β') β' p v := by
   intro p v hp
   induction hp with
   | junk v => exact .junk v
   | gh i t v => exact .gh i t v
   | pure p v hp => exact .pure p v (hp.mono had)
   | loc k i j bi hb =>
     cases hk : β' k with
     | none => exact .locDead _ _ _ _ hk
     | some bj => have := (e3 k bj hk).1; rw [hb] at this; cases this; exact .loc _ _ _ _ hk
   | locDead k i j v hb =>
     cases hk : β' k with
     | none => exact .locDead _ _ _ _ hk
     | some bj => have := (e3 k bj hk).1; rw [hb] at this; cases this
   | lsl k i n bi cap hb hv hn hc hi hm =>
     cases hk : β' k with
     | none => exact .lslDead _ _ _ _ hk
     | some bj => have := (e3 k bj hk).1; rw [hb] at this; cases this; exact .lsl _ _ _ _ _ hk hv hn hc hi hm
   | lslV k i bi a hb hi =>
     cases hk : β' k with
     | none => exact .lslDead _ _ _ _ hk
     | some bj => have := (e3 k bj hk).1; rw [hb] at this; cases this; exact .lslV _ _ _ _ hk hi
   | lslDead k i n v hb =>
     cases hk : β' k with
     | none => exact .lslDead _ _ _ _ hk
     | some bj => have := (e3 k bj hk).1; rw [hb] at this; cases this
   | mp k bi hb =>
     cases hk : β' k with
     | none => exact .mpDead _ _ hk
     | some bj => have := (e3 k bj hk).1; rw [hb] at this; cases this; exact .mp _ _ hk
   | mpDead k v hb =>
     cases hk : β' k with
     | none => exact .mpDead _ _ hk
     | some bj => have := (e3 k bj hk).1; rw [hb] at this; cases this
   | agg cs vs hl _ ih => exact .agg cs vs hl ih
   | fn f cs vs hl _ ih => exact .fn f cs vs hl ih
   | bm f g p v he _ ih => exact .bm f g p v he ih
   | tup cs vs hl _ ih => exact .tup cs vs hl ih
 have hlive : ∀ k, (s'.blk k).isSome = true → ∃ bi, β k = some bi := fun k hk => by
   cases hs : s'.blk k with
   | none => rw [hs] at hk; cases hk
   | some b =>
     have hb := (hblk k b hs).1
     have : ∃ b0, s.blk k = some b0 := by
       cases b with
       | row sz rows => exact ⟨_, hb⟩
       | mp es => exact ⟨_, hb⟩
       | box cells => obtain ⟨c, hc, _⟩ := hb; exact ⟨_, hc⟩
     obtain ⟨b0, hb0⟩ := this
     obtain ⟨bi, hbi, _⟩ := h.live hb0
     exact ⟨bi, hbi⟩
 have sub : ∀ {v v' : AV} {u : Value}, SubA s'.blk v v' → AR w (Av X β) β v u → AR w (Av X β') β' v' u := by
   rintro v v' u (rfl | rfl | ⟨p, q, hpq, rfl, hs⟩ | ⟨k, rfl, rfl, hk⟩) hu
   · exact arm hu
   · exact .junk _
   · exact .pure _ _ (hs _ _ _ ((hu.toPV0 hpq).mono had))
   · rw [AR.val_inv (Γ := Γ.atX X) hu]
     obtain ⟨bi, hbi⟩ := hlive k hk
     exact .lslV k 0 bi none ((e1 k hk).trans hbi) (Nat.zero_le _)
 have hget : ∀ t, SubA s'.blk (s.get t) (s'.get t) ∧ ∀ k ∈ (s'.get t).keys, k ∈ s'.used := fun t => by
   cases hl : lk s'.env t with
   | none =>
     have e : s'.get t = .junk := by simp [St.get, hl]
     rw [e]
     exact ⟨.inr (.inl rfl), by simp [AV.keys]⟩
   | some v =>
     have e : s'.get t = v := by simp [St.get, hl]
     rw [e]
     obtain ⟨h1, h2⟩ := checkE_get hE t v hl
     exact ⟨h1, fun k hk => subB_spec hu1 k (h2 k hk)⟩
 refine ⟨?_, g.sub, g.old, fun hon i t hi => Γ.y.stable i t X _ _ w w (g.gh hon i t ?_) (Kp.refl _ _) ?_, g.lone, g.marks⟩
 rotate_left
 rotate_left
 · rintro b ⟨k, bi, hk, hv, rfl⟩
   exact ⟨.inl ⟨k, bi, (e3 k bi hk).1, hv, rfl⟩, h.lt k bi (e3 k bi hk).1 hv⟩
 rotate_left
 · have := (hget Γ.N).1
   rw [hi] at this
   rcases this with e | e | ⟨p, q, _, e, _⟩ | ⟨k, _, e, _⟩
   · exact e
   · cases e
   · cases e
   · cases e
 exact
 { size := h.size
   slots := fun t => sub (hget t).1 (h.slots t)
   blks := fun k => by
     cases hs : s'.blk k with
     | none => rw [e2 k hs]; trivial
     | some b =>
       obtain ⟨h1, _, _⟩ := hblk k b hs
       have hk : (s'.blk k).isSome = true := by rw [hs]; rfl
       rw [e1 k hk]
       cases b with
       | row sz rows =>
         have h1 : s.blk k = some (.row sz rows) := h1
         obtain ⟨bi, hbi, hbo⟩ := h.live h1
         rw [hbi]
         exact BOK.mono (β := β) (β' := β') (blk := .row sz rows) had hbo (fun y hy => by simp only [Blk.keys, List.not_mem_nil] at hy) fun _ => rfl
       | mp es =>
         have h1 : s.blk k = some (.mp es) := h1
         obtain ⟨bi, hbi, hbo⟩ := h.live h1
         rw [hbi]
         exact BOK.mono (β := β) (β' := β') (blk := .mp es) had hbo (fun y hy => by simp only [Blk.keys, List.not_mem_nil] at hy) fun _ => rfl
       | box cells' =>
         obtain ⟨cells, hc, hsub⟩ := h1
         obtain ⟨bi, hbi, g1, cs, e, fz, g2, g3, g4, g5, g6⟩ := h.live hc
         obtain ⟨q1, q2⟩ := hsub.get
         rw [hbi]
         refine ⟨g1, cs, e, fz, g2, g3, by omega, g5, fun j av hj => ?_⟩
         obtain ⟨p, hp, hps⟩ := q2 j av hj
         exact ⟨sub hps (g6 j p hp).1, (g6 j p hp).2⟩
   inj := fun j j' bj bj' hj hj' => h.inj j j' bj bj' (e3 j bj hj).1 (e3 j' bj' hj').1
   lt := fun j bj hj => h.lt j bj (e3 j bj hj).1
   notX := fun j bj hj => h.notX j bj (e3 j bj hj).1
   own := fun j bj hj => h.own j bj (e3 j bj hj).1
   fixd := fun j hj => (e1 j (liveAll_spec hfx j hj)).trans (h.fixd j hj)
   used1 := fun t => (hget t).2
   used2 := fun k b hb => by
     obtain ⟨_, h2, h3⟩ := hblk k b hb
     exact ⟨subB_spec hu2 k h2, fun k' hk' => subB_spec hu2 k' (h3 k' hk')⟩
   keep := h.keep
   Xlt := h.Xlt
   glob := h.glob.mono had }
theorem Le.virt {Γ : Ctx} {s : St} {k sz : Nat} (hk : freshIn k s.used = true) (hfx : freshIn k Γ.fx = true) (hsz : 0 < sz) : Le Γ s (s.new k (.row sz [])) := by
 rintro a w ⟨X, β, h, g⟩
 have hn := h.newK (freshIn_spec hk) (freshIn_spec hfx) ⟨0, sz, 0, 0, true⟩ (.row sz []) (Nat.le_refl _) (fun _ _ => rfl) rfl tpr rfl (fun hv => by cases hv) (by simp [Blk.keys])
   (fun β' _ _ _ => ⟨rfl, hsz, rfl, by simp, .inl ⟨rfl, rfl⟩⟩)
 refine ⟨X, _, hn, g.sub, g.old, fun hon i t hi => Γ.y.stable i t X _ _ w w (g.gh hon i t hi) (Kp.refl _ _) ?_, g.lone, g.marks⟩
 rintro b ⟨j, bj, hj, hv, rfl⟩
 by_cases e : j = k
 · simp only [e, if_true, Option.some.injEq] at hj
   rw [← hj] at hv; cases hv
 · simp only [e, if_false] at hj
   exact ⟨.inl ⟨j, bj, hj, hv, rfl⟩, h.lt j bj hj hv⟩
theorem Le.frz {Γ : Ctx} {s : St} (k : Nat) (hfx : freshIn k Γ.fx = true) : Le Γ s (s.freeze k) := by
 rintro a w ⟨X, β, h, g⟩
 obtain ⟨β', h1, _, h3, _⟩ := h.freeze (freshIn_spec hfx)
 refine ⟨X, β', h1, g.sub, g.old, fun hon i t hi => Γ.y.stable i t X _ _ w w (g.gh hon i t (freeze_gh hi)) (Kp.refl _ _) ?_, g.lone, g.marks⟩
 rintro b ⟨j, bj, hj, hv, rfl⟩
 exact ⟨.inl ⟨j, bj, h3 j bj hj, hv, rfl⟩, h1.lt j bj hj hv⟩
def idSig (M : List (Nat × Nat)) (k : Nat) : Nat := (lk M k).getD k
def renE (M : List (Nat × Nat)) : List (Nat × AV) → List (Nat × AV)
 | [] => []
 | (t, v) :: l => (t, v.ren (idSig M)) :: renE M l
def renB (M : List (Nat × Nat)) : List (Nat × Option Blk) → List (Nat × Option Blk)
 | [] => []
 | (k, none) :: l => (idSig M k, none) :: renB M l
 | (k, some b) :: l => (idSig M k, some (b.ren (idSig M))) :: renB M l
def renSt (M : List (Nat × Nat)) (s : St) : St := ⟨renE M s.env, renB M s.blks, s.used.map (idSig M)⟩
def injB (M : List (Nat × Nat)) : List Nat → Bool
 | [] => true
 | k :: l => bif freshIn k l then (bif freshIn (idSig M k) (l.map (idSig M)) then injB M l else false) else injB M l
def fixB (M : List (Nat × Nat)) : List Nat → Bool
 | [] => true
 | k :: l => bif Nat.beq (idSig M k) k then fixB M l else false
def renOK (M : List (Nat × Nat)) (s : St) (fx : List Nat) : Bool :=
 injB M s.used && subB (keysE s.env) s.used && subB (keysB s.blks) s.used && subB fx s.used && fixB M fx && subB (s.blks.map (·.1)) s.used
theorem injB_spec {M : List (Nat × Nat)} : ∀ {l : List Nat}, injB M l = true → ∀ j ∈ l, ∀ k ∈ l, idSig M j = idSig M k → j = k
 | [], _, j, hj, _, _, _ => by cases hj
 | x :: l, h, j, hj, k, hk, e => by
   simp only [injB] at h
   cases hx : freshIn x l with
   | false =>
     rw [hx] at h
     have hm := freshIn_not hx
     have hj' : j ∈ l := by rcases List.mem_cons.1 hj with rfl | hj; exact hm; exact hj
     have hk' : k ∈ l := by rcases List.mem_cons.1 hk with rfl | hk; exact hm; exact hk
     exact injB_spec (by simpa using h) j hj' k hk' e
   | true =>
     rw [hx] at h
     simp only [cond_true] at h
     cases hy : freshIn (idSig M x) (l.map (idSig M)) with
     | false => rw [hy] at h; cases h
     | true =>
       rw [hy] at h
       have hn := freshIn_spec hy
       rcases List.mem_cons.1 hj with ej | hj' <;> rcases List.mem_cons.1 hk with ek | hk'
       · rw [ej, ek]
       · subst ej; exact absurd (List.mem_map.2 ⟨k, hk', e.symm⟩) hn
       · subst ek; exact absurd (List.mem_map.2 ⟨j, hj', e⟩) hn
       · exact injB_spec (by simpa using h) j hj' k hk' e
theorem fixB_spec {M : List (Nat × Nat)} : ∀ {l : List Nat}, fixB M l = true → ∀ k ∈ l, idSig M k = k
 | [], _, k, hk => by cases hk
 | x :: l, h, k, hk => by
   simp only [fixB, beq_eq_decide] at h
   by_cases e : idSig M x = x
   · simp only [e, decide_true, cond_true] at h
     rcases List.mem_cons.1 hk with rfl | hk
     · exact e
     · exact fixB_spec h k hk
   · simp [e] at h
theorem renE_lk {M : List (Nat × Nat)} : ∀ (l : List (Nat × AV)) (t : Nat), lk (renE M l) t = (lk l t).map (AV.ren (idSig M))
 | [], t => rfl
 | (d, v) :: l, t => by
   simp only [renE, lk_cons]
   by_cases e : d = t
   · simp [e]
   · simp [e, renE_lk l t]
theorem renB_lk {M : List (Nat × Nat)} {U : List Nat} (hi : ∀ j ∈ U, ∀ k ∈ U, idSig M j = idSig M k → j = k) : ∀ (l : List (Nat × Option Blk)), (∀ x ∈ l, x.1 ∈ U) → ∀ k ∈ U, lk (renB M l) (idSig M k) = (lk l k).map (Option.map (Blk.ren (idSig M)))
 | [], _, k, _ => rfl
 | (d, none) :: l, hl, k, hk => by
   simp only [renB, lk_cons]
   by_cases e : d = k
   · simp [e]
   · rw [if_neg e, if_neg fun e' => e (hi d (hl _ List.mem_cons_self) k hk e')]
     exact renB_lk hi l (fun x hx => hl x (List.mem_cons_of_mem _ hx)) k hk
 | (d, some b) :: l, hl, k, hk => by
   simp only [renB, lk_cons]
   by_cases e : d = k
   · simp [e]
   · rw [if_neg e, if_neg fun e' => e (hi d (hl _ List.mem_cons_self) k hk e')]
     exact renB_lk hi l (fun x hx => hl x (List.mem_cons_of_mem _ hx)) k hk
theorem lk_keysE {l : List (Nat × AV)} {t : Nat} {v : AV} (h : lk l t = some v) : ∀ k ∈ v.keys, k ∈ keysE l := by
 induction l with
 | nil => cases h
 | cons x l ih =>
   obtain ⟨d, u⟩ := x
   rw [lk_cons] at h
   intro k hk
   simp only [keysE, List.mem_append]
   split at h
   · cases h; exact .inl hk
   · exact .inr (ih h k hk)
theorem lk_keysB {l : List (Nat × Option Blk)} {t : Nat} {b : Blk} (h : lk l t = some (some b)) : t ∈ keysB l ∧ ∀ k ∈ b.keys, k ∈ keysB l := by
 induction l with
 | nil => cases h
 | cons x l ih =>
   obtain ⟨d, u⟩ := x
   rw [lk_cons] at h
   split at h
   · rename_i e
     subst e
     cases h
     simp only [keysB]
     exact ⟨List.mem_cons_self, fun k hk => List.mem_cons_of_mem _ (List.mem_append_left _ hk)⟩
   · obtain ⟨h1, h2⟩ := ih h
     cases u with
     | none => exact ⟨h1, h2⟩
     | some c =>
       simp only [keysB]
       exact ⟨List.mem_cons_of_mem _ (List.mem_append_right _ h1), fun k hk => List.mem_cons_of_mem _ (List.mem_append_right _ (h2 k hk))⟩
theorem Le.unren {Γ : Ctx} (s : St) (M : List (Nat × Nat)) (hok : renOK M s Γ.fx = true) : Le Γ (renSt M s) s := by
 simp only [renOK, Bool.and_eq_true] at hok
 obtain ⟨⟨⟨⟨⟨o1, o2⟩, o3⟩, o4⟩, o5⟩, o6⟩ := hok
 have hi := injB_spec o1
 have hsubE := subB_spec o2
 have hsubB := subB_spec o3
 have hfxU := subB_spec o4
 have hfix := fixB_spec o5
 have hkeys : ∀ x ∈ s.blks, x.1 ∈ s.used := fun x hx => subB_spec o6 _ (List.mem_map.2 ⟨x, hx, rfl⟩)
 rintro a w ⟨X, β, h, g⟩
 generalize hβ' : (fun k => if k ∈ s.used then β (idSig M k) else none) = β'
 have e1 : ∀ k ∈ s.used, β' k = β (idSig M k) := fun k hk => by rw [← hβ']; simp [hk]
 have e2 : ∀ k, k ∉ s.used → β' k = none := fun k hk => by rw [← hβ']; simp [hk]
 have e3 : ∀ k bi, β' k = some bi → k ∈ s.used ∧ β (idSig M k) = some bi := fun k bi hk => by
   by_cases e : k ∈ s.used
   · exact ⟨e, by rw [← e1 k e]; exact hk⟩
   · rw [e2 k e] at hk; cases hk
 have had : Ad w (Av X β) w (Av X β') := ⟨Nat.le_refl _, fun b _ hA => ⟨rfl, fun hA' => hA (by
   rcases hA' with hx | ⟨j, bj, hj, hv, hb⟩
   · exact .inl hx
   · exact .inr ⟨_, bj, (e3 j bj hj).2, hv, hb⟩)⟩⟩
 have hget : ∀ t, (renSt M s).get t = (s.get t).ren (idSig M) := fun t => by
   simp only [renSt, St.get, renE_lk]
   cases lk s.env t <;> rfl
 have hgk : ∀ t, ∀ k ∈ (s.get t).keys, k ∈ s.used := fun t k hk => by
   unfold St.get at hk
   cases hl : lk s.env t with
   | none => rw [hl] at hk; simp [AV.keys] at hk
   | some v => rw [hl] at hk; exact hsubE k (lk_keysE hl k hk)
 have hblk : ∀ k ∈ s.used, (renSt M s).blk (idSig M k) = (s.blk k).map (Blk.ren (idSig M)) := fun k hk => by
   simp only [renSt, St.blk, renB_lk hi s.blks hkeys k hk]
   cases lk s.blks k with
   | none => rfl
   | some x => cases x <;> rfl
 have hbk : ∀ k b, s.blk k = some b → k ∈ s.used ∧ ∀ k' ∈ b.keys, k' ∈ s.used := fun k b hb => by
   simp only [St.blk] at hb
   cases hl : lk s.blks k with
   | none => rw [hl] at hb; cases hb
   | some x =>
     rw [hl] at hb
     simp only [Option.join_some] at hb
     subst hb
     obtain ⟨h1, h2⟩ := lk_keysB hl
     exact ⟨hsubB k h1, fun k' hk' => hsubB k' (h2 k' hk')⟩
 refine ⟨X, β', ?_, g.sub, g.old, fun hon i t ht => Γ.y.stable i t X _ _ w w (g.gh hon i t (by rw [hget, ht]; rfl)) (Kp.refl _ _) (by
   rintro b ⟨j, bj, hj, hv, rfl⟩
   exact ⟨.inl ⟨_, bj, (e3 j bj hj).2, hv, rfl⟩, h.lt _ bj (e3 j bj hj).2 hv⟩), g.lone, g.marks⟩
 exact
 { size := h.size
   slots := fun t => by
     have := h.slots t
     rw [hget] at this
     exact AR.unren had this rfl fun k hk => e1 k (hgk t k hk)
   blks := fun k => by
     by_cases hk : k ∈ s.used
     · have hb := h.blks (idSig M k)
       rw [hblk k hk] at hb
       rw [e1 k hk]
       cases hs : s.blk k with
       | none =>
         rw [hs] at hb
         cases hβ : β (idSig M k) with
         | none => trivial
         | some bi => rw [hβ] at hb; exact hb.elim
       | some b =>
         rw [hs] at hb
         cases hβ : β (idSig M k) with
         | none => rw [hβ] at hb; exact hb.elim
         | some bi =>
           rw [hβ] at hb
           exact BOK.unren had hb (fun k' hk' => e1 k' ((hbk k b hs).2 k' hk')) fun _ => rfl
     · rw [e2 k hk]
       cases hs : s.blk k with
       | none => trivial
       | some b => exact absurd (hbk k b hs).1 hk
   inj := fun j k bj bk hj hk hvj hvk hb => by
     obtain ⟨p1, p2⟩ := e3 j bj hj
     obtain ⟨q1, q2⟩ := e3 k bk hk
     exact hi j p1 k q1 (h.inj _ _ bj bk p2 q2 hvj hvk hb)
   lt := fun k bi hk => h.lt _ bi (e3 k bi hk).2
   notX := fun k bi hk => h.notX _ bi (e3 k bi hk).2
   own := fun k bi hk => h.own _ bi (e3 k bi hk).2
   fixd := fun k hk => by
     rw [e1 k (hfxU k hk), hfix k hk]
     exact h.fixd k hk
   used1 := hgk
   used2 := hbk
   keep := h.keep
   Xlt := h.Xlt
   glob := h.glob.mono had }
theorem Le.map {Γ : Ctx} {s s' : St} (M : List (Nat × Nat)) (hE : checkE s (renSt M s').blk (renE M s'.env)) (hB : checkB s (renSt M s').blk (renB M s'.blks)) (hu1 : subB (keysE (renE M s'.env)) (s'.used.map (idSig M)) = true)
   (hu2 : subB (keysB (renB M s'.blks)) (s'.used.map (idSig M)) = true) (hfx : liveAll (renSt M s') Γ.fx = true) (hok : renOK M s' Γ.fx = true) : Le Γ s s' :=
 Le.trans (Le.of (s' := renSt M s') hE hB hu1 hu2 hfx) (Le.unren s' M hok)
theorem Wp.le {Γ : Ctx} {F : Fence} {n : Nat} {c : Code} {s s' : St} {K : Exit → St → Prop} (hl : Le Γ s s') (h : Wp Γ F n c s' K) : Wp Γ F n c s K := fun a w hR => h a w (hl a w hR)
theorem Wp.loop {Γ : Ctx} {F : Fence} {n : Nat} {c : Code} {s : St} {K : Exit → St → Prop} {ι : Type} (fam : ι → St) (ok : ι → Prop) (μ : ι → Nat) (i0 : ι) (h0 : Le Γ s (fam i0)) (ok0 : ok i0)
   (round : ∀ i, ok i → Wp Γ F n c (fam i) fun e s' => match e with
     | .normal => ∃ j, Le Γ s' (fam j) ∧ ok j ∧ μ j < μ i
     | e => K e s') : Wp Γ F n (.loop c) s K := by
 intro a w hR
 have key : ∀ m i a w, μ i = m → ok i → R Γ (fam i) a w → (Code.loop c).wpIn F n Γ.P (fun e a' w' => ∃ s', (K e s' ∨ EscS Γ e s') ∧ R Γ s' a' w') a w := by
   intro m i a w _ hi hR
   -- the measure is read off the best index that fits
   let I : Act → World → Prop := fun a' w' => ∃ j, ok j ∧ R Γ (fam j) a' w'
   have hdec : ∀ a' w', I a' w' → ∃ j, ok j ∧ R Γ (fam j) a' w' ∧ ∀ j', ok j' → R Γ (fam j') a' w' → μ j ≤ μ j' := by
     rintro a' w' ⟨j, hj, hr⟩
     have : ∀ m j, μ j = m → ok j → R Γ (fam j) a' w' → ∃ j, ok j ∧ R Γ (fam j) a' w' ∧ ∀ j', ok j' → R Γ (fam j') a' w' → μ j ≤ μ j' := by
       intro m
       induction m using Nat.strongRecOn with
       | _ m ih =>
         intro j hm hj hr
         by_cases hx : ∃ j', ok j' ∧ R Γ (fam j') a' w' ∧ μ j' < μ j
         · obtain ⟨j', h1, h2, h3⟩ := hx
           exact ih (μ j') (hm ▸ h3) j' rfl h1 h2
         · refine ⟨j, hj, hr, fun j' h1 h2 => ?_⟩
           rcases Nat.lt_or_ge (μ j') (μ j) with h3 | h3
           · exact absurd ⟨j', h1, h2, h3⟩ hx
           · exact h3
     exact this _ j rfl hj hr
   let best : Act → World → Nat := fun a' w' => by
     classical
     exact if h : I a' w' then μ (Classical.choose (hdec a' w' h)) else 0
   have hbest : ∀ a' w' j, ok j → R Γ (fam j) a' w' → best a' w' ≤ μ j := fun a' w' j hj hr => by
     have hI : I a' w' := ⟨j, hj, hr⟩
     simp only [best, dif_pos hI]
     exact (Classical.choose_spec (hdec a' w' hI)).2.2 j hj hr
   refine wpIn_loop I best ⟨i, hi, hR⟩ fun a' w' hI => ?_
   obtain ⟨j, hj, hr, hmin⟩ := hdec a' w' hI
   have hbe : best a' w' = μ (Classical.choose (hdec a' w' hI)) := by simp only [best, dif_pos hI]
   have hs := Classical.choose_spec (hdec a' w' hI)
   have heq : μ j = best a' w' := Nat.le_antisymm (by rw [hbe]; exact hmin _ hs.1 hs.2.1) (hbest a' w' j hj hr)
   refine wpIn_mono (round j hj a' w' hr) ?_
   rintro e a'' w'' ⟨s', h1 | hE, h2⟩
   case inr =>
     obtain ⟨v, D, hpk, rfl, hD⟩ := hE
     exact ⟨s', .inr ⟨v, D, hpk, rfl, hD⟩, h2⟩
   cases e with
   | normal =>
     obtain ⟨j', hl, hj', hlt⟩ := h1
     exact ⟨⟨j', hj', hl _ _ h2⟩, by have := hbest a'' w'' j' hj' (hl _ _ h2); omega⟩
   | exit id => exact ⟨s', .inl h1, h2⟩
   | goto l => exact ⟨s', .inl h1, h2⟩
   | ret => exact ⟨s', .inl h1, h2⟩
   | panic c => exact ⟨s', .inl h1, h2⟩
   | outgrown => exact ⟨s', .inl h1, h2⟩
 exact key _ i0 a w rfl ok0 (h0 a w hR)
end Go.Avc
/- Functions: what they return; the contract of a function by its conditions. Conditions: none. -/
namespace Go.Avc
open Go.RowKit
def resVC (P : Program) (s : St) : List ResultVar → (List AV → Prop) → Prop
 | [], K => K []
 | .tmp t :: l, K => resVC P s l fun vs => K (s.get t :: vs)
 | .cell a t :: l, K => opLoad P t (s.get a) s.blk fun v _ => resVC P s l fun vs => K (v :: vs)
def retVC (P : Program) (fn : Func) (s : St) (res : PV) : Prop :=
 resVC P s fn.results.toList fun vs => match vs with
   | [v] => match toPV s.blk v with
     | some p => PSub p res
     | none => False
   | vs => match toPVL s.blk vs with
     | some ps => PSub (.tup ps) res
     | none => False
def endVC (P : Program) (fn : Func) (res : PV) (e : Exit) (s : St) : Prop :=
 match e with
 | .normal => retVC P fn s res
 | .ret => retVC P fn s res
 | _ => False
def argsEnv : Nat → List PV → List (Nat × AV)
 | _, [] => []
 | i, p :: l => (i, .pure p) :: argsEnv (i + 1) l
def startSt (args : List PV) : St := ⟨argsEnv 0 args, [], []⟩
section
variable {Γ : Ctx} {s : St} {a : Act} {w : World} {β : BM}
def resSem (tmps : Array Value) : ResultVar → Sem Value
 | .tmp t => pure (tmps.getD t undef)
 | .cell x t => do loadVar t (← asAddr (tmps.getD x undef))
theorem results_eq (fn : Func) (tmps : Array Value) : results fn tmps = (do let vs ← fn.results.mapM (resSem tmps); pure (if h : vs.size = 1 then vs[0] else .tuple vs)) := by
 unfold results
 congr 1
theorem mapM_run {P : Program} {α : Type} {g : α → Sem Value} {w : World} : ∀ {l : List α} {us : List Value}, l.length = us.length → (∀ (j : Nat) (x : α), l[j]? = some x → (g x).run P w = .ok (us.getD j undef) w) → (l.mapM g).run P w = .ok us w
 | [], [], _, _ => by simp
 | x :: l, u :: us, hl, h => by
   have h0 := h 0 x (by simp)
   simp only [List.getD_cons_zero] at h0
   have h1 := mapM_run (P := P) (g := g) (w := w) (l := l) (us := us) (by simpa using hl) fun j y hj => by simpa using h (j + 1) y (by simpa using hj)
   rw [List.mapM_cons, Sem.run_bind, h0, Result.andThen_ok, Sem.run_bind, h1, Result.andThen_ok]
   rfl
 | [], _ :: _, hl, _ => by simp at hl
 | _ :: _, [], hl, _ => by simp at hl
theorem resVC_sound (h : Rl Γ s a.tmps w β) : ∀ {l : List ResultVar} {K : List AV → Prop}, resVC Γ.P s l K →
   ∃ (vs : List AV) (us : List Value), K vs ∧ vs.length = us.length ∧ us.length = l.length ∧ (∀ (j : Nat) (v : AV), vs[j]? = some v → AR w (Av Γ.X β) β v (us.getD j undef)) ∧
     ∀ (j : Nat) (x : ResultVar), l[j]? = some x → (resSem a.tmps x).run Γ.P w = .ok (us.getD j undef) w
 | [], K, hK => ⟨[], [], hK, rfl, rfl, by simp, by simp⟩
 | .tmp t :: l, K, hK => by
   obtain ⟨vs, us, h1, h2, h3, h4, h5⟩ := resVC_sound h (l := l) hK
   refine ⟨_, a.tmps.getD t undef :: us, h1, by simp [h2], by simp [h3], fun j v hj => ?_, fun j x hj => ?_⟩
   · cases j with
     | zero => simp at hj; subst hj; exact h.slots t
     | succ j => simpa using h4 j v (by simpa using hj)
   · cases j with
     | zero => simp at hj; subst hj; rfl
     | succ j => simpa using h5 j x (by simpa using hj)
 | .cell x t :: l, K, hK => by
   obtain ⟨v, u, hv, hr, hva, _⟩ := load_sound h (h.slots x) hK
   obtain ⟨vs, us, h1, h2, h3, h4, h5⟩ := resVC_sound h (l := l) hv
   refine ⟨_, u :: us, h1, by simp [h2], by simp [h3], fun j v' hj => ?_, fun j y hj => ?_⟩
   · cases j with
     | zero => simp at hj; subst hj; exact hva
     | succ j => simpa using h4 j v' (by simpa using hj)
   · cases j with
     | zero =>
       simp at hj; subst hj
       simp only [List.getD_cons_zero]
       cases hx : a.tmps.getD x undef with
       | pointer p =>
         cases p with
         | some ad => rw [hx] at hr; simpa [Instr.loadAt, Instr.sureAddr, asAddr, resSem, hx] using hr
         | none => rw [hx] at hr; simp [Instr.loadAt, Instr.sureAddr] at hr
       | _ => rw [hx] at hr; simp [Instr.loadAt, Instr.sureAddr] at hr
     | succ j => simpa using h5 j y (by simpa using hj)
theorem ret_sound {fn : Func} {res : PV} (h : Rl Γ s a.tmps w β) (hK : retVC Γ.P fn s res) : ∃ v, (results fn a.tmps).run Γ.P w = .ok v w ∧ PR w Γ.X res v := by
 obtain ⟨vs, us, h1, h2, h3, h4, h5⟩ := resVC_sound h hK
 have hm := mapM_run (P := Γ.P) (w := w) (g := resSem a.tmps) h3.symm h5
 have hr : (results fn a.tmps).run Γ.P w = .ok (if h : us.toArray.size = 1 then us.toArray[0] else .tuple us.toArray) w := by
   rw [results_eq, Sem.run_bind]
   have : fn.results.mapM (resSem a.tmps) = (Functor.map List.toArray (fn.results.toList.mapM (resSem a.tmps))) := by
     rw [← List.mapM_toArray]
   rw [this, Sem.run_map, hm, Result.andThen_ok, Result.andThen_ok]
   rfl
 split at h1
 · rename_i v
   obtain ⟨u, rfl⟩ := List.length_eq_one_iff.1 h2.symm
   split at h1
   · rename_i p hp
     have hu := h4 0 v (by simp)
     exact ⟨u, by rw [hr]; simp, h1 _ _ _ (h.out hu hp)⟩
   · exact h1.elim
 · rename_i hne
   split at h1
   · rename_i ps hps
     obtain ⟨q1, q2⟩ := toPVL_some hps
     refine ⟨.tuple us.toArray, ?_, h1 _ _ _ (.tup _ _ (by simp; omega) fun j p hj => ?_)⟩
     · rw [hr, dif_neg]
       intro hs
       have : vs.length = 1 := by rw [h2]; simpa using hs
       obtain ⟨v, rfl⟩ := List.length_eq_one_iff.1 this
       exact hne v rfl
     · obtain ⟨x, hx, hxp⟩ := q2 j p hj
       have := h.out (h4 j x hx) hxp
       simpa [Array.getD_eq_getD_getElem?] using this
   · exact h1.elim
theorem argsEnv_get : ∀ {i : Nat} {args : List PV} {t : Nat} {v : AV}, lk (argsEnv i args) t = some v → ∃ p, args[t - i]? = some p ∧ i ≤ t ∧ v = .pure p
 | i, [], t, v, h => by cases h
 | i, p :: l, t, v, h => by
   simp only [argsEnv] at h
   rw [lk_cons] at h
   split at h
   · rename_i e; subst e; cases h
     exact ⟨p, by simp, Nat.le_refl _, rfl⟩
   · obtain ⟨q, h1, h2, h3⟩ := argsEnv_get h
     refine ⟨q, ?_, by omega, h3⟩
     rw [show t - i = (t - (i + 1)) + 1 from by omega]
     simpa using h1
theorem kp_putObj {w : World} {D : Nat} (o : Obj) (E : Nat → Prop) (hD : E D) : Kp E w (w.putObj D o) :=
 ⟨rfl, tpr, rfl, by rw [World.putObj_size]; exact Nat.le_refl _, fun b _ he => World.putObj_heap_other fun e => he (e ▸ hD)⟩
theorem leavesM {P : Program} {fn : Func} {tmps : Array Value} {Rr : Ending → World → Prop} {E : Nat → Prop} {u : FrameMode} (hu : u ≠ .run) {df : List Deferred} : ∀ (ds : List Deferred) (w : World), ds.Nodup →
   (∀ d ∈ ds, ∃ D, d = { target := .collected D, args := #[] } ∧ w.heap[D]? = some (.deferred (some [])) ∧ E D) →
   (∀ w', Kp E w w' → w'.heap.size = w.heap.size → (ds = [] → w' = w) → LeavesInM Fence.wide 0 P fn tmps Rr df u w') →
   LeavesInM Fence.wide 0 P fn tmps Rr (ds ++ df) u w
 | [], w, _, _, h => h w (Kp.refl _ _) rfl fun _ => rfl
 | d :: ds, w, hn, hm, h => by
   obtain ⟨D, rfl, hD, hE⟩ := hm d List.mem_cons_self
   refine ⟨hu, .inl ⟨D, _, rfl, run_takeDeferred hD, leavesM (E := E) hu ds _ (List.nodup_cons.1 hn).2 (fun d' hd' => ?_) fun w' hk hs _ => ?_⟩⟩
   · obtain ⟨D', h1, h2, h3⟩ := hm d' (List.mem_cons_of_mem _ hd')
     refine ⟨D', h1, ?_, h3⟩
     rw [World.putObj_heap_other]
     · exact h2
     · rintro rfl
       exact (List.nodup_cons.1 hn).1 (h1 ▸ hd')
   · exact h w' ((kp_putObj (w := w) (.deferred none) E hE).trans hk) (by rw [hs, World.putObj_size]) (fun e => by cases e)
theorem R.leaveU {Γ : Ctx} {s : St} {a : Act} {w : World} {fn : Func} {Rr : Ending → World → Prop} {u : FrameMode} (hu : u ≠ .run) (hR : R Γ s a w) (hrd : Γ.y.rd = false)
   (fin : ∀ X β w', Rl (Γ.atX X) s a.tmps w' β → (∀ b, Γ.X b → X b) → (∀ b, b < Γ.w0.heap.size → X b → Γ.X b) → (Γ.y.on = true → ∀ i t, s.get Γ.N = .gh i t → Γ.y.J i t X (Ex β) w') → LeavesInM Fence.wide 0 Γ.P fn a.tmps Rr Γ.df u w') :
   LeavesInM Fence.wide 0 Γ.P fn a.tmps Rr a.defers u w := by
 obtain ⟨X, β, h, g⟩ := hR
 obtain ⟨mk, m1, m2, m3⟩ := g.marks
 rw [m1]
 refine leavesM (E := fun b => Γ.w0.heap.size ≤ b ∧ X b) hu mk w m2 (fun d hd => by obtain ⟨D, h1, h2, h3, h4⟩ := m3 d hd; exact ⟨D, h1, h2, h3 hrd, h4⟩) fun w' hk hs he => ?_
 refine fin X β w' (h.others (Γ := Γ) hk (fun b hb => hb.2) (fun b hb hb' => by omega) (fun b _ hb => hb) (fun b hb => Nat.lt_of_lt_of_le (h.Xlt b hb) hk.size)) g.sub g.old fun hon i t hi => ?_
 have e1 : mk = [] := by
   have := g.lone hon
   rw [m1] at this
   exact (List.append_eq_nil_iff.1 this).1
 rw [he e1]
 exact g.gh hon i t hi
theorem R.leave {Γ : Ctx} {s : St} {a : Act} {w : World} {fn : Func} {Rr : Ending → World → Prop} (hR : R Γ s a w) (hrd : Γ.y.rd = false) (hdf : Γ.df = [])
   (fin : ∀ X β w', Rl (Γ.atX X) s a.tmps w' β → (∀ b, Γ.X b → X b) → (∀ b, b < Γ.w0.heap.size → X b → Γ.X b) → (Γ.y.on = true → ∀ i t, s.get Γ.N = .gh i t → Γ.y.J i t X (Ex β) w') → ∃ v, (results fn a.tmps).run Γ.P w' = .ok v w' ∧ Rr (.returned v) w') :
   LeavesInM Fence.wide 0 Γ.P fn a.tmps Rr a.defers .returning w :=
 hR.leaveU (by simp) hrd fun X β w' h1 h2 h3 h4 => by rw [hdf]; exact fin X β w' h1 h2 h3 h4
theorem frame_getD (vs : Array Value) (n t : Nat) : (vs ++ Array.replicate n undef).getD t undef = vs.getD t undef := by
 rw [Array.getD_eq_getD_getElem?, Array.getD_eq_getD_getElem?]
 by_cases ht : t < vs.size
 · rw [Array.getElem?_append_left ht]
 · rw [Array.getElem?_append_right (by omega), Array.getElem?_eq_none (xs := vs) (by omega)]
   cases hx : (Array.replicate n undef)[t - vs.size]? with
   | none => rfl
   | some x =>
     obtain ⟨_, hx⟩ := Array.getElem?_eq_some_iff.1 hx
     simp at hx
     rw [← hx]
     rfl
theorem startSt_get (args : List PV) (t : Nat) : (startSt args).get t = .junk ∨ ∃ p, args[t]? = some p ∧ (startSt args).get t = .pure p := by
 cases hl : lk (argsEnv 0 args) t with
 | none => exact .inl (by simp [St.get, startSt, hl])
 | some v =>
   obtain ⟨p, h1, _, rfl⟩ := argsEnv_get hl
   exact .inr ⟨p, by simpa using h1, by simp [St.get, startSt, hl]⟩
theorem PSpec.of_vc {P : Program} {f : FuncId} {fn : Func} {c : Code} {args : List PV} {res : PV} (more : Ctx → St → Oper → Kont → Prop) (hmore : ∀ Γ, MoreOK (more Γ) Γ) (hf : P.funcs[f]? = some fn) (hb : fn.body = some c)
   (hcall : ∀ (vs : Array Value) (w : World), (callFunc f vs).run P w = .ok (.enter f vs) w) (hl : args.length ≤ fn.ntmps)
   (h : ∀ Γ : Ctx, Γ.P = P → Γ.N = fn.ntmps → Γ.fx = [] → Γ.y.on = false → Γ.pk = none → vcCode (more Γ) Γ Fence.wide 0 c (startSt args) (endVC P fn res)) : PSpec P f args res := by
 refine ⟨hcall, fun w X vs hgl hsz hv hX => ?_⟩
 refine (callsIn_wide (n := 0)).1 (callsIn_of_wp_marks hf hb trivial ?_)
 let Γ : Ctx := Ctx.plain P fn.ntmps w X (fun _ => none) []
 have hs := code_sound (hmore Γ) FOK.wide c (h Γ rfl rfl rfl rfl rfl)
 have hR : R Γ (startSt args) { tmps := vs ++ Array.replicate (fn.ntmps - vs.size) undef, defers := [] } w := by
   refine ⟨X, fun _ => none, ?_, fun _ h => h, fun _ _ h => h, (fun h => by cases h), (fun h => by cases h), ⟨[], rfl, List.nodup_nil, fun d hd => by cases hd⟩⟩
   refine
   { size := by show (vs ++ Array.replicate (fn.ntmps - vs.size) undef).size = fn.ntmps; rw [Array.size_append, Array.size_replicate]; omega
     slots := fun t => ?_
     blks := fun k => by simp [St.blk, startSt, lk, BO]
     inj := fun k k' bi bi' hk => by cases hk
     lt := fun k bi hk => by cases hk
     notX := fun k bi hk => by cases hk
     own := fun k bi hk => by cases hk
     fixd := fun k hk => rfl
     used1 := fun t k hk => by
       rcases startSt_get args t with e | ⟨p, _, e⟩ <;> rw [e] at hk <;> simp [AV.keys] at hk
     used2 := fun k b hk => by simp [St.blk, startSt, lk] at hk
     keep := Kp.refl _ _
     Xlt := hX
     glob := hgl.mono ⟨Nat.le_refl _, fun b _ hb => ⟨rfl, by
       rintro (hx | ⟨k, bi, hk, _⟩)
       · exact hb hx
       · cases hk⟩⟩ }
   show AR w (Av X fun _ => none) _ _ _
   rw [frame_getD]
   rcases startSt_get args t with e | ⟨p, hp, e⟩
   · rw [e]; exact .junk _
   · rw [e]
     refine .pure _ _ ((hv t p hp).mono ⟨Nat.le_refl _, fun b _ hb => ⟨rfl, ?_⟩⟩)
     rintro (hx | ⟨k, bi, hk, _⟩)
     · exact hb hx
     · cases hk
 refine wpIn_mono (hs _ w hR) ?_
 rintro e a' w' ⟨s', hK | ⟨_, _, hpk, _⟩, hr⟩
 case inr => cases hpk
 have fin : retVC P fn s' res → LeavesInM Fence.wide 0 P fn a'.tmps (fun e w'' => ∃ v, e = .returned v ∧ PR w'' X res v ∧ Kp (fun _ => False) w w'') a'.defers .returning w' := fun hK =>
   hr.leave rfl rfl fun X' β w'' hr' hsub _ _ => by
     obtain ⟨v, h1, h2⟩ := ret_sound (Γ := Γ.atX X') hr' hK
     refine ⟨v, h1, v, rfl, h2.mono ⟨Nat.le_refl _, fun b _ hb => ⟨rfl, fun hx => hb (hsub b hx)⟩⟩, ?_⟩
     have hk := hr'.keep
     exact ⟨hk.os, hk.tape, hk.output, hk.size, fun b hb _ => hk.block b hb (by rintro ⟨k, bi, h, _⟩; cases h)⟩
 cases e with
 | normal => exact fin hK
 | ret => exact fin hK
 | exit id => exact hK.elim
 | goto l => exact hK.elim
 | panic c => exact hK.elim
 | outgrown => exact hK.elim
end
theorem PSub.val_int {k : IntKind} {a b : Int} (h : a = b) : PSub (.val (.int k a)) (.val (.int k b)) := PSub.of_eq (by rw [h])
theorem PSub.val_bool {a b : Bool} (h : a = b) : PSub (.val (.bool a)) (.val (.bool b)) := PSub.of_eq (by rw [h])
theorem wI {n : Int} (h : -9223372036854775808 ≤ n ∧ n ≤ 9223372036854775807) : IntKind.i64.wrap n = n := IntWalk.i64_in n h
theorem getMapI {α : Type} {f : α → List PV} {l : List α} {k : Nat} (h : k < l.length) : (l.map f)[((k : Nat) : Int).toNat]? = some (f l[k]) := by simp [h]
@[simp] theorem cells_int (k : IntKind) (n : Int) : (Value.int k n).cells = #[.int k n] := rfl
@[simp] theorem cells_bool (b : Bool) : (Value.bool b).cells = #[.bool b] := rfl
@[simp] theorem cells_string (b : ByteArray) : (Value.string b).cells = #[.string b] := rfl
@[simp] theorem cells_slice (a : Option Addr) (n c : Nat) : (Value.slice a n c).cells = #[.slice a n c] := rfl
@[simp] theorem cells_agg (cs : Array Value) : (Value.agg cs).cells = cs := rfl
theorem getMapN {α : Type} {f : α → List PV} {l : List α} {n : Nat} (h : n < l.length) : (l.map f)[n]? = some (f (l[n]'h)) := by simp [h]
theorem SubA.lsl {B : Nat → Option Blk} {k i n m : Nat} (h : n = m) : SubA B (.lsl k i n) (.lsl k i m) := .inl (by rw [h])
theorem SubA.sl {B : Nat → Option Blk} {sz : Nat} {a b : List (List PV)} (h : a = b) : SubA B (.pure (.sl sz a)) (.pure (.sl sz b)) := .inl (by rw [h])
theorem SubA.bool {B : Nat → Option Blk} {a b : Bool} (h : a = b) : SubA B (.pure (.val (.bool a))) (.pure (.val (.bool b))) := .inl (by rw [h])
theorem SubA.str {B : Nat → Option Blk} {a b : ByteArray} (h : a = b) : SubA B (.pure (.val (.string a))) (.pure (.val (.string b))) := .inl (by rw [h])
theorem rowEq {sz : Nat} {a b : List (List PV)} (h : a = b) : some (Blk.row sz a) = some (Blk.row sz b) := by rw [h]
theorem SubA.int {B : Nat → Option Blk} {k : IntKind} {a b : Int} (h : a = b) : SubA B (.pure (.val (.int k a))) (.pure (.val (.int k b))) := .inl (by rw [h])
theorem bsel_bne {a b : Bool} {A B : Prop} (h1 : a = b → B) (h2 : ¬ a = b → A) : bsel (a != b) A B := bsel_intro (fun h => h2 fun e => by subst e; simp at h) (fun h => h1 (by simpa using h))
theorem bsel_beq {a b : Bool} {A B : Prop} (h1 : a = b → A) (h2 : ¬ a = b → B) : bsel (a == b) A B := bsel_intro (fun h => h1 (by simpa using h)) (fun h => h2 fun e => by subst e; simp at h)
theorem bsel_dec {p : Prop} [Decidable p] {A B : Prop} (h1 : p → A) (h2 : ¬ p → B) : bsel (decide p) A B :=
 bsel_intro (fun h => h1 (of_decide_eq_true h)) (fun h => h2 (of_decide_eq_false h))
theorem bsel_ndec {p : Prop} [Decidable p] {A B : Prop} (h1 : p → B) (h2 : ¬ p → A) : bsel (!decide p) A B :=
 bsel_intro (fun h => h2 (by simpa using h)) (fun h => h1 (by simpa using h))
theorem bsel_not {b : Bool} {A B : Prop} (h1 : b = true → B) (h2 : b = false → A) : bsel (!b) A B :=
 bsel_intro (fun h => h2 (by simpa using h)) (fun h => h1 (by simpa using h))
end Go.Avc
