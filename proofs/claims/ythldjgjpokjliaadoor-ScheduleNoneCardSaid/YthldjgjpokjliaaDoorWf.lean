/- Maps whose values are slices that grow: memory that lies aside. Conditions: none. -/
import Derived.Test.YthldjgjpokjliaaDoorWe
import Derived.Test.YthldjgjpokjliaaDoorWd
import Derived.WideKeyEntry
import Derived.Maps.RangeRun
set_option linter.unusedSimpArgs false
set_option linter.unusedVariables false
set_option maxRecDepth 20000
set_option maxHeartbeats 4000000
namespace Go.Avc
open Go.RowKit
theorem Rl.adopt {Γ : Ctx} {s : St} {tm : Array Value} {w : World} {β : BM} {X : Nat → Prop} (h : Rl (Γ.atX X) s tm w β) {k : Nat} (hk : k ∉ s.used) (hfx : k ∉ Γ.fx) {bi : BI} {sz : Nat} {rows : List (List PV)} (hv : bi.virt = false) (hx : X bi.b) (ho : Γ.w0.heap.size ≤ bi.b)
   (hb : BOK w (fun _ => True) (fun _ => none) bi (.row sz rows)) :
   Rl (Γ.atX fun b => X b ∧ b ≠ bi.b) (s.new k (.row sz rows)) tm w (fun j => if j = k then some bi else β j) := by
 generalize hβ' : (fun j => if j = k then some bi else β j) = β'
 have e1 : β' k = some bi := by rw [← hβ']; simp
 have e2 : ∀ j, j ≠ k → β' j = β j := fun j hj => by rw [← hβ']; simp [hj]
 have h0 := h.none_of hk
 have hA : ∀ b, Av X β b ↔ Av (fun b => X b ∧ b ≠ bi.b) β' b := fun b => by
   constructor
   · rintro (h1 | ⟨j, bj, h1, h2, h3⟩)
     · by_cases e : b = bi.b
       · exact .inr ⟨k, bi, e1, hv, e.symm⟩
       · exact .inl ⟨h1, e⟩
     · refine .inr ⟨j, bj, ?_, h2, h3⟩
       rw [e2 j fun e => by subst e; rw [h0] at h1; cases h1]; exact h1
   · rintro (⟨h1, _⟩ | ⟨j, bj, h1, h2, h3⟩)
     · exact .inl h1
     · by_cases e : j = k
       · subst e; rw [e1] at h1; cases h1; exact .inl (h3 ▸ hx)
       · rw [e2 j e] at h1; exact .inr ⟨j, bj, h1, h2, h3⟩
 have had : Ad w (Av X β) w (Av (fun b => X b ∧ b ≠ bi.b) β') := ⟨Nat.le_refl _, fun b _ hn => ⟨rfl, fun h' => hn ((hA b).2 h')⟩⟩
 have hu : ∀ {l : List Nat}, (∀ x ∈ l, x ∈ s.used) → ∀ x ∈ l, β' x = β x := fun hl x hx => e2 x fun e => hk (e ▸ hl x hx)
 exact
 { size := h.size
   slots := fun t => (h.slots t).mono had (hu (h.used1 t))
   blks := fun j => by
     rw [St.blk_new]
     by_cases e : k = j
     · subst e
       rw [if_pos rfl, e1]
       exact BOK.mono (β := fun _ => none) (β' := β') ⟨Nat.le_refl _, fun b _ hn => (hn trivial).elim⟩ hb (fun _ h => by simp [Blk.keys] at h) fun _ => rfl
     · rw [if_neg e, e2 j (Ne.symm e)]
       have hb := h.blks j
       cases hs : s.blk j with
       | none =>
         rw [hs] at hb
         cases hbj : β j with
         | none => trivial
         | some x => rw [hbj] at hb; exact hb.elim
       | some blk' =>
         rw [hs] at hb
         cases hbj : β j with
         | none => rw [hbj] at hb; exact hb.elim
         | some x =>
           rw [hbj] at hb
           exact BOK.mono had hb (hu (h.used2 j blk' hs).2) fun _ => rfl
   inj := fun j j' bj bj' hj hj' hv1 hv2 hbb => by
     by_cases e : j = k <;> by_cases e' : j' = k
     · rw [e, e']
     · subst e
       rw [e1] at hj; cases hj
       rw [e2 j' e'] at hj'
       exact (h.notX j' bj' hj' hv2 (hbb ▸ hx)).elim
     · subst e'
       rw [e1] at hj'; cases hj'
       rw [e2 j e] at hj
       exact (h.notX j bj hj hv1 (hbb ▸ hx)).elim
     · rw [e2 j e] at hj
       rw [e2 j' e'] at hj'
       exact h.inj j j' bj bj' hj hj' hv1 hv2 hbb
   lt := fun j bj hj hv1 => by
     by_cases e : j = k
     · subst e; rw [e1] at hj; cases hj; exact h.Xlt _ hx
     · rw [e2 j e] at hj; exact h.lt j bj hj hv1
   notX := fun j bj hj hv1 hx' => by
     by_cases e : j = k
     · subst e; rw [e1] at hj; cases hj; exact hx'.2 rfl
     · rw [e2 j e] at hj; exact h.notX j bj hj hv1 hx'.1
   own := fun j bj hj hv1 => by
     by_cases e : j = k
     · subst e; rw [e1] at hj; cases hj; exact .inl ho
     · rw [e2 j e] at hj; exact h.own j bj hj hv1
   fixd := fun j hj => (e2 j fun e => hfx (e ▸ hj)).trans (h.fixd j hj)
   used1 := fun t x hx => List.mem_cons_of_mem _ (h.used1 t x hx)
   used2 := fun j b hj => by
     rw [St.blk_new] at hj
     by_cases e : k = j
     · subst e
       rw [if_pos rfl] at hj; cases hj
       exact ⟨List.mem_cons_self, fun _ h => by simp [Blk.keys] at h⟩
     · rw [if_neg e] at hj
       obtain ⟨u1, u2⟩ := h.used2 j b hj
       exact ⟨List.mem_cons_of_mem _ u1, fun x hx => List.mem_cons_of_mem _ (u2 x hx)⟩
   keep := h.keep
   Xlt := fun b hb => h.Xlt b hb.1
   glob := h.glob.mono had }
theorem AR.killed {w : World} {A A' : Nat → Prop} {β β' : BM} {k : Nat} (had : Ad w A w A') (e1 : β' k = none) (e2 : ∀ j, j ≠ k → β' j = β j) {p : AV} {v : Value} (hp : AR w A β p v) : AR w A' β' p v := by
 induction hp with
 | junk v => exact .junk v
 | gh i t v => exact .gh i t v
 | pure p v hp => exact .pure p v (hp.mono had)
 | loc k' i j bi hb =>
   by_cases e : k' = k
   · subst e; exact .locDead _ _ _ _ e1
   · exact .loc k' i j bi ((e2 k' e).trans hb)
 | locDead k' i j v hb =>
   by_cases e : k' = k
   · subst e; exact .locDead _ _ _ _ e1
   · exact .locDead k' i j v ((e2 k' e).trans hb)
 | lsl k' i n bi cap hb hv hn hc hi hm =>
   by_cases e : k' = k
   · subst e; exact .lslDead _ _ _ _ e1
   · exact .lsl k' i n bi cap ((e2 k' e).trans hb) hv hn hc hi hm
 | lslV k' i bi a hb hi =>
   by_cases e : k' = k
   · subst e; exact .lslDead _ _ _ _ e1
   · exact .lslV k' i bi a ((e2 k' e).trans hb) hi
 | lslDead k' i n v hb =>
   by_cases e : k' = k
   · subst e; exact .lslDead _ _ _ _ e1
   · exact .lslDead k' i n v ((e2 k' e).trans hb)
 | agg cs vs hl _ ih => exact .agg cs vs hl ih
 | fn f cs vs hl _ ih => exact .fn f cs vs hl ih
 | bm f g p v he _ ih => exact .bm f g p v he ih
 | tup cs vs hl _ ih => exact .tup cs vs hl ih
 | mp k' bi hb =>
   by_cases e : k' = k
   · subst e; exact .mpDead _ _ e1
   · exact .mp k' bi ((e2 k' e).trans hb)
 | mpDead k' v hb =>
   by_cases e : k' = k
   · subst e; exact .mpDead _ _ e1
   · exact .mpDead k' v ((e2 k' e).trans hb)
theorem BOK.killed {w : World} {A A' : Nat → Prop} {β β' : BM} {k : Nat} (had : Ad w A w A') (e1 : β' k = none) (e2 : ∀ j, j ≠ k → β' j = β j) {bi : BI} {blk : Blk} (hb : BOK w A β bi blk) : BOK w A' β' bi blk := by
 cases blk with
 | box cells =>
   obtain ⟨h1, cs, e, fz, h2, h3, h4, h5, h6⟩ := hb
   exact ⟨h1, cs, e, fz, h2, h3, h4, h5, fun j av hj => ⟨(h6 j av hj).1.killed had e1 e2, (h6 j av hj).2⟩⟩
 | row sz rows =>
   obtain ⟨h1, h2, h2', h3, h4⟩ := hb
   refine ⟨h1, h2, h2', h3, ?_⟩
   rcases h4 with h4 | ⟨h4, cs, e, fz, h5, h6, h7, h8, h9⟩
   · exact .inl h4
   · exact .inr ⟨h4, cs, e, fz, h5, h6, h7, h8, fun i row j p hi hj => ⟨(h9 i row j p hi hj).1.mono had, (h9 i row j p hi hj).2⟩⟩
 | mp es =>
   obtain ⟨h1, ms, cl, h2, h3, h4⟩ := hb
   exact ⟨h1, ms, cl, h2, h3, fun i e q hi hq => ⟨(h4 i e q hi hq).1, (h4 i e q hi hq).2.mono had⟩⟩
theorem Rl.release {Γ : Ctx} {s : St} {tm : Array Value} {w : World} {β : BM} {X : Nat → Prop} (h : Rl (Γ.atX X) s tm w β) {k : Nat} (hfx : k ∉ Γ.fx) {bi : BI} (hβ : β k = some bi) (hv : bi.virt = false) :
   Rl (Γ.atX fun b => X b ∨ b = bi.b) (s.kill k) tm w (fun j => if j = k then none else β j) := by
 have h1 : Rl (Γ.atX X) (s.kill k) tm w (fun j => if j = k then none else β j) := h.killK (Γ := Γ.atX X) hfx
 generalize hβ' : (fun j => if j = k then none else β j) = β' at h1
 have e3 : ∀ j bj, β' j = some bj → j ≠ k ∧ β j = some bj := fun j bj hj => by
   rw [← hβ'] at hj
   by_cases e : j = k
   · simp [e] at hj
   · simp only [e, if_false] at hj; exact ⟨e, hj⟩
 -- what was not read before is not read now
 have hA : ∀ b, Av (fun b => X b ∨ b = bi.b) β' b → Av X β b := by
   rintro b ((h2 | rfl) | ⟨j, bj, h2, h3, h4⟩)
   · exact .inl h2
   · exact .inr ⟨k, bi, hβ, hv, rfl⟩
   · exact .inr ⟨j, bj, (e3 j bj h2).2, h3, h4⟩
 have had : Ad w (Av X β) w (Av (fun b => X b ∨ b = bi.b) β') := ⟨Nat.le_refl _, fun b _ hn => ⟨rfl, fun h' => hn (hA b h')⟩⟩
 have e2 : ∀ j, j ≠ k → β' j = β j := fun j hj => by rw [← hβ']; simp [hj]
 exact
 { size := h1.size
   slots := fun t => (h.slots t).killed had (by rw [← hβ']; simp) e2
   blks := fun j => by
     have hb1 := h1.blks j
     have hb := h.blks j
     cases hs : (s.kill k).blk j with
     | none =>
       rw [hs] at hb1
       cases hbj : β' j with
       | none => trivial
       | some x => rw [hbj] at hb1; exact hb1.elim
     | some blk' =>
       rw [hs] at hb1
       cases hbj : β' j with
       | none => rw [hbj] at hb1; exact hb1.elim
       | some x =>
         rw [hbj] at hb1
         have hne := (e3 j x hbj).1
         rw [St.blk_kill, if_neg (Ne.symm hne)] at hs
         rw [hs, (e3 j x hbj).2] at hb
         exact BOK.killed had (by rw [← hβ']; simp) e2 hb
   inj := h1.inj
   lt := h1.lt
   notX := fun j bj hj hv1 hx => by
     obtain ⟨hne, hj'⟩ := e3 j bj hj
     rcases hx with hx | hx
     · exact h.notX j bj hj' hv1 hx
     · exact hne (h.inj j k bj bi hj' hβ hv1 hv hx)
   own := h1.own
   fixd := h1.fixd
   used1 := h1.used1
   used2 := h1.used2
   keep := h1.keep
   Xlt := fun b hb => by
     rcases hb with hb | rfl
     · exact h.Xlt b hb
     · exact h.lt k bi hβ hv
   glob := h.glob.mono had }
end Go.Avc
/- Maps whose values are slices that grow: what lies aside, an entry taken and put back. Conditions: none. -/
namespace Go.Avc
open Go.RowKit
section
variable {α : Type} [DecidableEq α]
def gks (l : List (α × List PV)) : List α := l.foldl (fun ks q => if q.1 ∈ ks then ks else ks ++ [q.1]) []
def grw (l : List (α × List PV)) (k : α) : List (List PV) := (l.filter fun q => decide (q.1 = k)).map (·.2)
theorem gks_snoc (l : List (α × List PV)) (q : α × List PV) : gks (l ++ [q]) = if q.1 ∈ gks l then gks l else gks l ++ [q.1] := by unfold gks; rw [List.foldl_append]; rfl
theorem grw_snoc (l : List (α × List PV)) (q : α × List PV) (k : α) : grw (l ++ [q]) k = if q.1 = k then grw l k ++ [q.2] else grw l k := by
 unfold grw
 rw [List.filter_append, List.map_append]
 by_cases h : q.1 = k <;> simp [h]
theorem snocI {β : Type} {p : List β → Prop} (h0 : p []) (hs : ∀ l a, p l → p (l ++ [a])) (l : List β) : p l := by
 rw [← List.reverse_reverse l]
 generalize l.reverse = m
 induction m with
 | nil => exact h0
 | cons a t ih => rw [List.reverse_cons]; exact hs _ _ ih
theorem gks_nodup (l : List (α × List PV)) : (gks l).Nodup := by
 induction l using snocI with
 | h0 => simp [gks]
 | hs l q ih =>
   rw [gks_snoc]
   split
   · exact ih
   · rename_i h
     exact List.nodup_append.2 ⟨ih, by simp, fun a ha c hc e => by rw [List.mem_singleton] at hc; subst hc; subst e; exact h ha⟩
theorem grw_none {l : List (α × List PV)} {k : α} (h : k ∉ gks l) : grw l k = [] := by
 induction l using snocI with
 | h0 => rfl
 | hs l q ih =>
   rw [gks_snoc] at h
   rw [grw_snoc]
   split at h
   · rename_i h1
     rw [if_neg (fun e : q.1 = k => h (e ▸ h1))]
     exact ih h
   · rw [List.mem_append, List.mem_singleton] at h
     rw [if_neg fun e => h (.inr e.symm)]
     exact ih fun h' => h (.inl h')
structure GArr (sz mb : Nat) (old : Nat → Prop) (b cap : Nat) (rows : List (List PV)) (X E : Nat → Prop) (w : World) : Prop where
 x : X b
 e : ¬ E b
 o : old b
 lt : b < w.heap.size
 ne : b ≠ mb
 hc : rows.length ≤ cap
 hm : cap ≤ maxLen
 ok : ∃ tot, cap * sz ≤ tot ∧ BOK w (fun _ => True) (fun _ => none) ⟨b, sz, tot, rows.length, false⟩ (.row sz rows)
structure GMap (C : MKey α) (sz mb : Nat) (old : Nat → Prop) (l : List (α × List PV)) (hole : Option α) (X E : Nat → Prop) (w : World) : Prop where
 mx : X mb
 me : ¬ E mb
 mo : old mb
 mlt : mb < w.heap.size
 ex : ∃ (es : Array MapEntry) (bb cc : Nat → Nat) (vv : Nat → Value), w.heap[mb]? = some (.map es (gks l).length) ∧ es.size = (gks l).length ∧
   (∀ i j (hi : i < (gks l).length) (hj : j < (gks l).length), hole ≠ some (gks l)[i] → hole ≠ some (gks l)[j] → bb i = bb j → i = j) ∧
   ∀ j (hj : j < (gks l).length), es[j]? = some { key := C.val (gks l)[j], val := vv j, born := j } ∧
     (hole ≠ some (gks l)[j] → vv j = .slice (some ⟨bb j, 0, none⟩) (grw l (gks l)[j]).length (cc j) ∧ GArr sz mb old (bb j) (cc j) (grw l (gks l)[j]) X E w)
variable {C : MKey α} {sz mb : Nat} {old : Nat → Prop} {l : List (α × List PV)} {X E : Nat → Prop} {w : World}
theorem GArr.stable {b cap : Nat} {rows : List (List PV)} {X' E' : Nat → Prop} {w' : World} {E0 : Nat → Prop} (h : GArr sz mb old b cap rows X E w) (hk : Kp E0 w w') (he0 : ¬ E0 b) (hx : X' b) (he : ¬ E' b) : GArr sz mb old b cap rows X' E' w' := by
 obtain ⟨tot, h1, h2⟩ := h.ok
 exact ⟨hx, he, h.o, Nat.lt_of_lt_of_le h.lt hk.size, h.ne, h.hc, h.hm, tot, h1, BOK.mono (β := fun _ => none) ⟨hk.size, fun _ _ hn => (hn trivial).elim⟩ h2 (fun _ _ => rfl) fun _ => hk.block b h.lt he0⟩
theorem GMap.stable {hole : Option α} (h : GMap C sz mb old l hole X E w) {E' : Nat → Prop} {w' : World} (hk : Kp E w w') (hE : ∀ b, E' b → (E b ∨ w.heap.size ≤ b) ∧ b < w'.heap.size) : GMap C sz mb old l hole X E' w' := by
 have hne : ∀ b, b < w.heap.size → ¬ E b → ¬ E' b := fun b hb he h' => by
   rcases (hE b h').1 with h1 | h1
   · exact he h1
   · omega
 obtain ⟨es, bb, cc, vv, h1, h2, h3, h4⟩ := h.ex
 refine ⟨h.mx, hne _ h.mlt h.me, h.mo, Nat.lt_of_lt_of_le h.mlt hk.size, es, bb, cc, vv, (hk.block mb h.mlt h.me).trans h1, h2, h3, fun j hj => ⟨(h4 j hj).1, fun hh => ?_⟩⟩
 obtain ⟨g1, g2⟩ := (h4 j hj).2 hh
 exact ⟨g1, g2.stable hk g2.e g2.x (hne _ g2.lt g2.e)⟩
theorem keys_of {es : Array MapEntry} {vv : Nat → Value} (h2 : es.size = (gks l).length) (h4 : ∀ j (hj : j < (gks l).length), es[j]? = some { key := C.val (gks l)[j], val := vv j, born := j }) : es.toList.map (·.key) = (gks l).map C.val := by
 refine List.ext_getElem (by simp [h2]) fun j a1 a2 => ?_
 have hj : j < (gks l).length := by simpa using a2
 have := h4 j hj
 have hj' : j < es.size := by omega
 rw [Array.getElem?_eq_getElem hj'] at this
 simp only [Option.some.injEq] at this
 simp [this]
theorem findL_at {ks : List α} (hn : ks.Nodup) {es : List MapEntry} (hl : ks.length = es.length) {j : Nat} {e : MapEntry} (hj : j < ks.length) (he : es[j]? = some e) : findL ks[j] ks es 0 = some (j, e.val) := by
 rcases findL_cases ks[j] ks es 0 hl with ⟨_, h2⟩ | ⟨n, e', h1, h2, h3, _⟩
 · exact absurd (List.getElem_mem hj) h2
 · obtain ⟨hn', h3⟩ := List.getElem?_eq_some_iff.1 h3
   have : n = j := (List.getElem_inj hn).1 h3
   subst this
   rw [he] at h2
   cases h2
   rw [h1, Nat.zero_add]
theorem kp_set {w : World} {o o' : Obj} (h : w.heap[mb]? = some o) : Kp (fun b => b = mb) w { w with heap := w.heap.setIfInBounds mb o' } ∧ (w.heap.setIfInBounds mb o')[mb]? = some o' := by
 obtain ⟨s1, s2⟩ := MapKept.heap_set (o' := o') h
 exact ⟨⟨rfl, tpr, rfl, by simp, fun b _ hb => s2 b hb⟩, s1⟩
variable {P : Program} {t kt et : TypeId}
theorem GMap.take (G : GMap C sz mb old l none X E w) (ht : P.underlying t = some (.map kt et)) (hok : C.ok P kt = true) {j : Nat} (hj : j < (gks l).length) {k : α} (hkj : (gks l)[j] = k) (r : List PV) :
   ∃ b cap w', (Instr.mapEntry t (.map (some mb)) (C.val k)).run P w = .ok (.tuple #[.slice (some ⟨b, 0, none⟩) (grw l k).length cap, goInt j]) w' ∧ GArr sz mb old b cap (grw l k) X E w ∧ Kp (fun x => x = mb) w w' ∧
     GMap C sz mb old (l ++ [(k, r)]) (some k) (fun x => X x ∧ x ≠ b) (fun x => E x ∨ x = b) w' := by
 obtain ⟨es, bb, cc, vv, h1, h2, h3, h4⟩ := G.ex
 obtain ⟨g1, g2⟩ := h4 j hj
 obtain ⟨g2, g3⟩ := g2 (by simp)
 have hfind := C.find hok w (gks l) es.toList (gks l)[j] (keys_of h2 fun i hi => (h4 i hi).1)
 rw [findL_at (gks_nodup l) (by simp [h2]) hj (e := { key := C.val (gks l)[j], val := vv j, born := j }) (by simpa using g1)] at hfind
 rw [hkj] at g1 g2 g3 hfind
 have hes : es.modify j (fun e => { e with key := C.val k }) = es := by
   apply Array.ext (by simp)
   intro i a1 a2
   rw [Array.getElem_modify]
   split
   · rename_i e
     subst e
     rw [Array.getElem?_eq_getElem a2] at g1
     simp only [Option.some.injEq] at g1
     rw [g1]
   · rfl
 obtain ⟨k1, k2⟩ := kp_set (o' := .map es (gks l).length) h1
 have hks : gks (l ++ [(k, r)]) = gks l := by rw [gks_snoc, if_pos (by rw [← hkj]; exact List.getElem_mem hj)]
 refine ⟨bb j, cc j, _, ?_, g3, k1, ⟨G.mx, Ne.symm g3.ne⟩, fun h => h.elim G.me fun h => g3.ne h.symm, G.mo, Nat.lt_of_lt_of_le G.mlt k1.size, es, bb, cc, vv, ?_, ?_, ?_, ?_⟩
 · simp [Instr.mapEntry, run_underlying ht, MapKept.run_getObj_map h1, C.chk hok, hfind, g1, C.stays, MapKept.run_setObj_map _ h1, hes, g2]
 · rw [hks]; exact k2
 · rw [hks]; exact h2
 · simp only [hks]
   exact fun i j' hi hj' _ _ => h3 i j' hi hj' (by simp) (by simp)
 · simp only [hks]
   intro i hi
   refine ⟨(h4 i hi).1, fun hh => ?_⟩
   obtain ⟨v1, v2⟩ := (h4 i hi).2 (by simp)
   have hne : k ≠ (gks l)[i] := fun e => hh (congrArg some e)
   have hbb : bb i ≠ bb j := fun e => hne (by have := h3 i j hi hj (by simp) (by simp) e; subst this; exact hkj.symm)
   rw [grw_snoc, if_neg hne]
   exact ⟨v1, v2.stable k1 v2.ne ⟨v2.x, hbb⟩ fun h => h.elim v2.e hbb⟩
theorem GMap.make (G : GMap C sz mb old l none X E w) (ht : P.underlying t = some (.map kt et)) (hz : ∀ u : World, (zeroValue et).run P u = .ok (.slice none 0 0) u) (hok : C.ok P kt = true) {k : α} (hk : k ∉ gks l) (r : List PV) :
   ∃ w', (Instr.mapEntry t (.map (some mb)) (C.val k)).run P w = .ok (.tuple #[.slice none 0 0, goInt (gks l).length]) w' ∧ Kp (fun x => x = mb) w w' ∧ GMap C sz mb old (l ++ [(k, r)]) (some k) X E w' := by
 obtain ⟨es, bb, cc, vv, h1, h2, h3, h4⟩ := G.ex
 have hfind := C.find hok w (gks l) es.toList k (keys_of h2 fun i hi => (h4 i hi).1)
 have hno : findL k (gks l) es.toList 0 = none := by
   rcases findL_cases k (gks l) es.toList 0 (by simp [h2]) with ⟨h5, _⟩ | ⟨n, e', _, _, h5, _⟩
   · exact h5
   · exact absurd (List.mem_of_getElem? h5) hk
 rw [hno] at hfind
 obtain ⟨k1, k2⟩ := kp_set (o' := .map (es.push { key := C.val k, val := .slice none 0 0, born := (gks l).length }) ((gks l).length + 1)) h1
 have hks : gks (l ++ [(k, r)]) = gks l ++ [k] := by rw [gks_snoc, if_neg hk]
 have hlen : (gks l ++ [k]).length = (gks l).length + 1 := by simp
 have hat : ∀ i (hi : i < (gks l).length), (gks l ++ [k])[i]'(by rw [hlen]; omega) = (gks l)[i] := fun i hi => List.getElem_append_left hi
 have hlt : ∀ i (hi : i < (gks l ++ [k]).length), some k ≠ some (gks l ++ [k])[i] → i < (gks l).length := fun i hi hh => by
   by_cases e : i < (gks l).length
   · exact e
   · exfalso
     have : i = (gks l).length := by rw [hlen] at hi; omega
     subst this
     exact hh (by simp)
 refine ⟨_, ?_, k1, G.mx, G.me, G.mo, Nat.lt_of_lt_of_le G.mlt k1.size, es.push { key := C.val k, val := .slice none 0 0, born := (gks l).length }, bb, cc, fun i => if i = (gks l).length then .slice none 0 0 else vv i, ?_, ?_, ?_, ?_⟩
 · simp [Instr.mapEntry, run_underlying ht, MapKept.run_getObj_map h1, C.chk hok, hfind, hz, MapKept.run_setObj_map _ h1]
 · rw [hks, hlen]; exact k2
 · rw [hks, hlen]; simp [h2]
 · simp only [hks]
   intro i j hi hj hhi hhj
   exact h3 i j (hlt i hi hhi) (hlt j hj hhj) (by simp) (by simp)
 · simp only [hks]
   intro i hi
   by_cases e : i < (gks l).length
   · have e' : i ≠ (gks l).length := by omega
     rw [Array.getElem?_push, if_neg (by omega)]
     simp only [if_neg e', hat i e]
     refine ⟨(h4 i e).1, fun hh => ?_⟩
     obtain ⟨v1, v2⟩ := (h4 i e).2 (by simp)
     have hne : k ≠ (gks l)[i] := fun e => hk (e ▸ List.getElem_mem _)
     rw [grw_snoc, if_neg hne]
     exact ⟨v1, v2.stable k1 v2.ne v2.x v2.e⟩
   · have : i = (gks l).length := by rw [hlen] at hi; omega
     subst this
     refine ⟨?_, fun hh => absurd (hlt _ hi hh) e⟩
     have e1 : ∀ x : MapEntry, (es.push x)[(gks l).length]? = some x := fun x => by rw [Array.getElem?_push, if_pos h2.symm]
     rw [e1]
     simp
theorem GMap.back {k : α} (G : GMap C sz mb old l (some k) X E w) {j : Nat} (hj : j < (gks l).length) (hkj : (gks l)[j] = k) {b cap : Nat} {E' : Nat → Prop} (hxb : ¬ X b) (hA : GArr sz mb old b cap (grw l k) (fun x => X x ∨ x = b) E' w) (hE : ∀ x, E' x → E x ∧ x ≠ b) :
   ∃ w', (Instr.entryStore t (.map (some mb)) (goInt j) (.slice (some ⟨b, 0, none⟩) (grw l k).length cap)).run P w = .ok () w' ∧ Kp (fun x => x = mb) w w' ∧ GMap C sz mb old l none (fun x => X x ∨ x = b) E' w' := by
 obtain ⟨es, bb, cc, vv, h1, h2, h3, h4⟩ := G.ex
 have hborn : (es.toList.map (·.born)).Nodup := by
   have : es.toList.map (·.born) = List.range (gks l).length := by
     refine List.ext_getElem (by simp [h2]) fun i a1 a2 => ?_
     have hi : i < (gks l).length := by simpa using a2
     have := (h4 i hi).1
     have hi' : i < es.size := by omega
     rw [Array.getElem?_eq_getElem hi'] at this
     simp only [Option.some.injEq] at this
     simp [this]
   rw [this]; exact List.nodup_range
 have hidx : es.findIdx? (fun e => ((e.born : Nat) : Int) == ((j : Nat) : Int)) = some j := by
   rw [WideElems.findIdx_arr]
   exact WideElems.findIdx_born hborn (e0 := { key := C.val (gks l)[j], val := vv j, born := j }) (by simpa using (h4 j hj).1)
 obtain ⟨k1, k2⟩ := kp_set (o' := .map (es.modify j fun e => { e with val := .slice (some ⟨b, 0, none⟩) (grw l k).length cap }) (gks l).length) h1
 have hin : ∀ i (hi : i < (gks l).length), i ≠ j → some k ≠ some (gks l)[i] := fun i hi hne e => hne ((List.getElem_inj (gks_nodup l)).1 (by rw [hkj]; exact (Option.some.inj e).symm))
 refine ⟨_, ?_, k1, .inl G.mx, fun h => G.me (hE _ h).1, G.mo, Nat.lt_of_lt_of_le G.mlt k1.size, _, fun i => if i = j then b else bb i, fun i => if i = j then cap else cc i, fun i => if i = j then .slice (some ⟨b, 0, none⟩) (grw l k).length cap else vv i, k2, by simp [h2], ?_, ?_⟩
 · simp [Instr.entryStore, MapKept.run_getObj_map h1, asInt, asIntOf, goInt, hidx, MapKept.run_setObj_map _ h1]
 · intro i i' hi hi' _ _ hbb
   simp only at hbb
   have hx : ∀ m (hm : m < (gks l).length), m ≠ j → X (bb m) := fun m hm hne => ((h4 m hm).2 (hin m hm hne)).2.x
   by_cases e : i = j <;> by_cases e' : i' = j
   · rw [e, e']
   · rw [if_pos e, if_neg e'] at hbb
     exact absurd (hbb ▸ hx i' hi' e') hxb
   · rw [if_neg e, if_pos e'] at hbb
     exact absurd (hbb ▸ hx i hi e) hxb
   · rw [if_neg e, if_neg e'] at hbb
     exact h3 i i' hi hi' (hin i hi e) (hin i' hi' e') hbb
 · intro i hi
   rw [Array.getElem?_modify]
   by_cases e : i = j
   · subst e
     simp only [if_true, (h4 i hi).1, Option.map_some, hkj]
     exact ⟨trivial, fun _ => ⟨trivial, hA.stable k1 hA.ne hA.x hA.e⟩⟩
   · simp only [if_neg e, if_neg (Ne.symm e)]
     refine ⟨(h4 i hi).1, fun _ => ?_⟩
     obtain ⟨v1, v2⟩ := (h4 i hi).2 (hin i hi e)
     exact ⟨v1, v2.stable k1 v2.ne (.inl v2.x) fun h => v2.e (hE _ h).1⟩
end
end Go.Avc
/- Maps whose values are slices that grow: the rules, and functions that make such maps. Conditions: none. -/
namespace Go.Avc
open Go.RowKit
section
variable {Γ : Ctx} {s : St} {a : Act} {w : World} {β : BM} {more : St → Oper → Kont → Prop} {F : Fence} {n : Nat}
theorem ops_pre (hm : MoreOK more Γ) (hF : FOK F) {ops : List Oper} {K : St → Prop} {Q : Exit → Act → World → Prop} : ∀ {l l2 : List Oper} {s : St} {a : Act} {w : World}, opsVC false more Γ.P Γ.pk Γ.y Γ.N Γ.fx ops l s K → R Γ s a w →
   (∀ s' a' w', K s' → R Γ s' a' w' → wpListIn F n Γ.P ops.toArray Q l2 a' w') → (∀ e s' a' w', EscS Γ e s' → R Γ s' a' w' → Q e a' w') → wpListIn F n Γ.P ops.toArray Q (l ++ l2) a w
 | [], l2, s, a, w, hv, hR, hQ, hE => hQ s a w hv hR
 | o :: l, l2, s, a, w, hv, hR, hQ, hE => by
   have opk : ∀ {s : St} {K' : Act → World → Prop} {C : St → Prop}, R Γ s a w → dstOk Γ.N o.dst = true → opK false more Γ.pk Γ.y Γ.N Γ.fx s o C → (∀ s' a' w', C s' → R Γ s' a' w' → K' a' w') → o.wpIn F n Γ.P a w K' Q := fun {s K' C} hR hok hv hK' => opK_sound hm hF hR hok hv hK' hE
   change opsStep false more Γ.P Γ.pk Γ.y Γ.N Γ.fx ops o (opsVC false more Γ.P Γ.pk Γ.y Γ.N Γ.fx ops l) s K at hv
   unfold opsStep at hv
   split at hv
   · exact hv.elim
   rename_i hok
   split at hv
   · rename_i hg
     refine wpListIn_plain hg fun K' hK' => ?_
     exact opk hR hok hv fun s' a' w' hC hR' => hK' _ _ (ops_pre hm hF hC hR' hQ hE)
   · rename_i j want hg
     split at hv
     · exact hv.elim
     rename_i d hdst
     split at hv
     · exact hv.elim
     rename_i hdN
     split at hv
     case h_3 => exact hv.elim
     case h_2 =>
       rename_i arr hb
       split at hv
       case h_2 => exact hv.elim
       rename_i ha
       have ha : arr = #[] := Array.toList_inj.1 (by simpa using ha)
       subst ha
       obtain ⟨X, β, h, g⟩ := hR
       have hdlt : d < Γ.N := by simpa [Nat.blt_eq] using hdN
       have hdl : d < a.tmps.size := by rw [h.size]; exact hdlt
       have hev : a.tmps.getD d undef = .tuple #[] := by
         have := h.slots d
         rw [hb] at this
         exact this.val_inv
       refine wpListIn_step fun K' hK' => ?_
       rw [wanted_und (a := a) hg hdst hdl hev]
       simp only [Bool.false_eq_true, if_false]
       rw [putC_eq] at hv
       exact ⟨fun f _ => hF.fn f, hK' _ _ (ops_pre hm hF hv (R.putU h g hok) hQ hE)⟩
     rename_i b hb
     obtain ⟨X, β, h, g⟩ := hR
     have hdlt : d < Γ.N := by simpa [Nat.blt_eq] using hdN
     have hdl : d < a.tmps.size := by rw [h.size]; exact hdlt
     have hev : a.tmps.getD d undef = .bool b := by
       have := h.slots d
       rw [hb] at this
       exact this.val_inv
     have hwant := wanted_of (a := a) hg hdst hdl hev
     -- the slot holds what it holds
     have hput : ∀ t : Bool, b = t → R Γ (s.put d (.bool t)) a w := fun t ht => by
       have := h.put (v := .bool t) (u := .bool t) hdlt (.pure _ _ (.val _)) (by simp [AV.keys])
       have e : a.tmps.setIfInBounds d (.bool t) = a.tmps := by
         apply Array.ext (by simp)
         intro y hy hy'
         rw [Array.getElem_setIfInBounds hy']
         split
         · rename_i e
           subst e
           rw [Array.getD_eq_getD_getElem?, Array.getElem?_eq_getElem hdl] at hev
           simp only [Option.getD_some] at hev
           rw [hev, ht]
         · rfl
       rw [e] at this
       exact ⟨X, β, this, g.sub, g.old, fun hon i t hi => g.gh hon i t (by rw [St.get_put, if_neg (Nat.ne_of_lt hdlt)] at hi; exact hi), g.lone, g.marks⟩
     have skip : ∀ t : Bool, b = t → (b == want) = false → (putC (s.put d (.bool t)) o.dst und fun s'' => opsVC false more Γ.P Γ.pk Γ.y Γ.N Γ.fx ops l s'' K) → wpListIn F n Γ.P ops.toArray Q (o :: (l ++ l2)) a w := fun t ht hw hv => by
       refine wpListIn_step fun K' hK' => ?_
       rw [hwant, hw]
       simp only [Bool.false_eq_true, if_false]
       rw [putC_eq] at hv
       refine ⟨fun f _ => hF.fn f, hK' _ _ (ops_pre hm hF hv ?_ hQ hE)⟩
       obtain ⟨X, β, h, g⟩ := hput t ht
       exact R.putU h g hok
     have run : ∀ t : Bool, b = t → (b == want) = true → (opK false more Γ.pk Γ.y Γ.N Γ.fx (s.put d (.bool t)) o fun s'' => opsVC false more Γ.P Γ.pk Γ.y Γ.N Γ.fx ops l s'' K) → wpListIn F n Γ.P ops.toArray Q (o :: (l ++ l2)) a w := fun t ht hw hv => by
       refine wpListIn_step fun K' hK' => ?_
       rw [hwant, hw]
       simp only [if_true]
       exact opk (hput t ht) hok hv fun s' a' w' hC hR' => hK' _ _ (ops_pre hm hF hC hR' hQ hE)
     obtain ⟨e, bl, u⟩ := s
     rcases bsel_elim hv with ⟨e0, hv2⟩ | ⟨e0, hv2⟩
     · cases want with
       | true => exact run true e0 (by rw [e0]; rfl) hv2
       | false => exact skip true e0 (by rw [e0]; rfl) hv2
     · cases want with
       | true => exact skip false e0 (by rw [e0]; rfl) hv2
       | false => exact run false e0 (by rw [e0]; rfl) hv2
end
section
variable {α : Type} [DecidableEq α]
theorem addr_add (b m : Nat) : (⟨b, 0, none⟩ : Addr).add m = ⟨b, m, none⟩ := by
 unfold Addr.add
 split
 · rename_i h; subst h; rfl
 · simp
def gIx (n mb i : Nat) : Nat := 1 + mb * (n + 1) + i
theorem gIx_inj {n a b i j : Nat} (h : gIx n a i = gIx n b j) (hi : i ≤ n) (hj : j ≤ n) : a = b ∧ i = j := by
 unfold gIx at h
 have h1 : (a * (n + 1) + i) / (n + 1) = (b * (n + 1) + j) / (n + 1) := by rw [show a * (n + 1) + i = b * (n + 1) + j by omega]
 rw [Nat.mul_comm a, Nat.mul_comm b, Nat.mul_add_div (by omega), Nat.mul_add_div (by omega), Nat.div_eq_of_lt (by omega), Nat.div_eq_of_lt (by omega)] at h1
 have : a = b := by omega
 subst this
 exact ⟨rfl, by omega⟩
def gOld (w0 : World) (X0 : Nat → Prop) : Nat → Prop := fun b => w0.heap.size ≤ b ∧ ¬ X0 b
def gAt (C : MKey α) (sz : Nat) (w0 : World) (X0 : Nat → Prop) (L : List (α × List PV)) (mb j : Nat) (t : Bool) (X E : Nat → Prop) (w : World) : Prop := match t with
 | false => GMap C sz mb (gOld w0 X0) (L.take j) none X E w
 | true => ∃ h : j < L.length, GMap C sz mb (gOld w0 X0) (L.take j ++ [L[j]]) (some L[j].1) X E w
def gJ (C : MKey α) (sz : Nat) (w0 : World) (X0 : Nat → Prop) (L : List (α × List PV)) (i : Nat) (t : Bool) (X E : Nat → Prop) (w : World) : Prop :=
 Kp (fun _ => False) w0 w ∧ (∀ b, E b → w0.heap.size ≤ b) ∧ ∀ mb j, i = gIx L.length mb j → j ≤ L.length → gAt C sz w0 X0 L mb j t X E w
variable {C : MKey α} {sz : Nat} {w0 : World} {X0 : Nat → Prop} {L : List (α × List PV)}
theorem gBase_kp {E : Nat → Prop} {w w' : World} (h1 : Kp (fun _ => False) w0 w) (h2 : ∀ b, E b → w0.heap.size ≤ b) (hk : Kp E w w') : Kp (fun _ => False) w0 w' :=
 ⟨hk.os.trans h1.os, hk.tape.trans h1.tape, hk.output.trans h1.output, Nat.le_trans h1.size hk.size, fun b hb _ => (hk.block b (Nat.lt_of_lt_of_le hb h1.size) fun he => by have := h2 b he; omega).trans (h1.block b hb fun h => h)⟩
def GCtx (C : MKey α) (sz : Nat) (L : List (α × List PV)) (Γ : Ctx) : Prop := Γ.y.on = true ∧ Γ.y.J = gJ C sz Γ.w0 Γ.X L ∧ Γ.df = [] ∧ Γ.β0 = bmOf Γ.X ∧ ∀ b, Γ.X b → b < Γ.w0.heap.size
def startGm (args : List PV) (N : Nat) : St := ⟨(N, .gh 0 false) :: argsEnv 0 args, [], []⟩
theorem GMap.pr {mb : Nat} {X E : Nat → Prop} {w : World} (h : GMap C sz mb (gOld w0 X0) L none X E w) (hX : ∀ b, X0 b → b < w0.heap.size) : PR w X0 (.mp ((gks L).map C.val) ((gks L).map fun k => .sl sz (grw L k))) (.map (some mb)) := by
 obtain ⟨es, bb, cc, vv, h1, h2, h3, h4⟩ := h.ex
 have hstp : Stamps es (gks L).length := by
   have he : es.toList.map (·.born) = List.range (gks L).length := by
     refine List.ext_getElem (by simp [h2]) fun i a1 a2 => ?_
     have hi : i < (gks L).length := by simpa using a2
     have := (h4 i hi).1
     have hi' : i < es.size := by omega
     rw [Array.getElem?_eq_getElem hi'] at this
     simp only [Option.some.injEq] at this
     simp [this]
   refine ⟨by rw [he]; exact List.nodup_range, fun e hm => ?_⟩
   have hm2 := List.mem_map_of_mem (f := (·.born)) hm
   rw [he] at hm2
   exact List.mem_range.1 hm2
 refine .mp _ _ mb es _ vv ⟨h.mlt, h.mo.2⟩ h1 ⟨by simp [h2], by simp [h2], hstp⟩ (fun i e he => ?_) fun i p hp => ?_
 · have hi : i < (gks L).length := by have := (Array.getElem?_eq_some_iff.1 he).1; omega
   rw [(h4 i hi).1] at he
   cases he
   exact ⟨by simp [hi], rfl⟩
 · have hi : i < (gks L).length := by simpa using (List.getElem?_eq_some_iff.1 hp).1
   rw [List.getElem?_map, List.getElem?_eq_getElem hi] at hp
   cases hp
   obtain ⟨v1, v2⟩ := (h4 i hi).2 (by simp)
   rw [v1]
   obtain ⟨tot, o1, b1, b2, b3, b4, b5⟩ := v2.ok
   rcases b5 with ⟨b5, _⟩ | ⟨_, cs, et, fz, c1, c2, c3, c4, c5⟩
   · cases b5
   refine .sl sz _ ⟨bb i, 0, none⟩ (cc i) (fun i j => cs.getD (i * sz + j) undef) v2.hc v2.hm b2 (fun _ => ⟨v2.lt, v2.o.2⟩) b4 (fun i' row j p hi' hj => ⟨?_, (c5 i' row j p hi' hj).2⟩) fun i' row j p hi' hj => ?_
   · have hrl := b4 i' row hi'
     have hjl := (List.getElem?_eq_some_iff.1 hj).1
     have hil := (List.getElem?_eq_some_iff.1 hi').1
     have hlt : i' * sz + j < cs.size := by
       have : i' * sz + sz ≤ (grw L (gks L)[i]).length * sz := by rw [← Nat.succ_mul]; exact Nat.mul_le_mul_right _ (by omega)
       have c3' : tot = cs.size := c3
       have c4' : (grw L (gks L)[i]).length * sz ≤ tot := c4
       omega
     have c1' : w.heap[bb i]? = some (.cells cs et fz) := c1
     rw [addr_add]
     simp [World.cell?, c1', Array.getD_eq_getD_getElem?, hlt]
   · exact (c5 i' row j p hi' hj).1.mono ⟨Nat.le_refl _, fun _ _ hn => (hn trivial).elim⟩
end
end Go.Avc
/- Maps whose values are slices that grow: an entry is taken, made and put back in a frame. Conditions: none. -/
namespace Go.Avc
open Go.RowKit
theorem take_at {γ : Type} {l : List γ} {i : Nat} (h : i < l.length) : l.take (i + 1) = l.take i ++ [l[i]] := List.take_succ_eq_append_getElem h
section
variable {α : Type} [DecidableEq α] {C : MKey α} {sz : Nat} {L : List (α × List PV)} {Γ : Ctx} {s : St} {a : Act} {w : World}
theorem Rl.putSame {Γ : Ctx} {s : St} {tm : Array Value} {w : World} {β : BM} (h : Rl Γ s tm w β) {d : Nat} {v : AV} (hv : AR w (Av Γ.X β) β v (tm.getD d undef)) (hk : ∀ k ∈ v.keys, k ∈ s.used) : Rl Γ (s.put d v) tm w β :=
 { h with
   slots := fun j => by
     rw [St.get_put]
     by_cases e : d = j
     · subst e; rw [if_pos rfl]; exact hv
     · rw [if_neg e]; exact h.slots j
   used1 := fun j k hk' => by
     rw [St.get_put] at hk'
     by_cases e : d = j
     · rw [if_pos e] at hk'; exact hk k hk'
     · rw [if_neg e] at hk'; exact h.used1 j k hk' }
theorem R.take (hR : R Γ s a w) (hG : GCtx C sz L Γ) {i mb : Nat} (hgh : s.get Γ.N = .gh (gIx L.length mb i) false) (hi : i < L.length) {t kt et : TypeId} (ht : Γ.P.underlying t = some (.map kt et)) (hok : C.ok Γ.P kt = true)
   {j : Nat} (hj : j < (gks (L.take i)).length) (hkj : (gks (L.take i))[j] = L[i].1) {d k : Nat} (hd : d < Γ.N) (hk : k ∉ s.used) (hfx : k ∉ Γ.fx) :
   ∃ v w', (Instr.mapEntry t (.map (some mb)) (C.val L[i].1)).run Γ.P w = .ok v w' ∧
     R Γ (((s.new k (.row sz (grw (L.take i) L[i].1))).put Γ.N (.gh (gIx L.length mb i) true)).put d (.tup [.lsl k 0 (grw (L.take i) L[i].1).length, .int j])) (a.put (some d) v) w' := by
 obtain ⟨X, β, h, g⟩ := hR
 obtain ⟨hon, hJ, hdf, hβ0, hX0⟩ := hG
 have hj0 := g.gh hon _ _ hgh
 rw [hJ] at hj0
 obtain ⟨b1, b2, b3⟩ := hj0
 have G : GMap C sz mb (gOld Γ.w0 Γ.X) (L.take i) none X (Ex β) w := b3 mb i rfl (Nat.le_of_lt hi)
 obtain ⟨b, cap, w', r1, A, k1, G'⟩ := G.take ht hok hj hkj L[i].2
 have h1 := h.others (Γ := Γ) (X' := X) k1 (fun x e => e ▸ G.mx) (fun x hx e => by subst e; have h9 : Γ.w0.heap.size ≤ x := G.mo.1; omega) (fun x _ hx => hx) (fun x hx => Nat.lt_of_lt_of_le (h.Xlt x hx) k1.size)
 obtain ⟨tot, o1, o2⟩ := (A.stable k1 A.ne A.x A.e).ok
 obtain ⟨bi, hbi⟩ : ∃ bi : BI, bi = ⟨b, sz, tot, (grw (L.take i) L[i].1).length, false⟩ := ⟨_, rfl⟩
 rw [← hbi] at o2
 have hbb : bi.b = b := by rw [hbi]
 have h2 := h1.adopt (Γ := Γ) hk hfx (bi := bi) (by rw [hbi]) (hbb ▸ A.x) (hbb ▸ A.o.1) o2
 have h3 := (h2.putG (Γ := Γ.atX _) (gIx L.length mb i) true).put (d := d) (v := .tup [.lsl k 0 (grw (L.take i) L[i].1).length, .int j]) (u := .tuple #[.slice (some ⟨b, 0, none⟩) (grw (L.take i) L[i].1).length cap, goInt j]) hd
   (.tup _ _ rfl fun m p hp => by
     match m, hp with
     | 0, hp =>
       cases hp
       have := AR.lsl (w := w') (A := Av (Γ.atX fun b => X b ∧ b ≠ bi.b).X (fun j => if j = k then some bi else β j)) k 0 (grw (L.take i) L[i].1).length bi cap (β := fun j => if j = k then some bi else β j) (by simp) (by rw [hbi]) A.hc (by rw [hbi]; simpa using o1) (by rw [hbi]; simp) A.hm
       rw [hbi, Nat.zero_mul] at this
       rw [hbi]
       exact this
     | 1, hp => cases hp; exact .pure _ _ (.val _))
   (by
     intro x hx
     simp only [AV.keys, AV.keysL, List.append_nil, List.mem_singleton] at hx
     subst hx
     exact List.mem_cons_self)
 refine ⟨_, w', r1, _, _, h3, ?_⟩
 have hEx : ∀ x, Ex (fun j => if j = k then some bi else β j) x → Ex β x ∨ x = b := by
   rintro x ⟨j', bj, e1, e2, rfl⟩
   by_cases e : j' = k
   · simp only [e, if_true] at e1
     cases e1; exact .inr hbb
   · simp only [if_neg e] at e1
     exact .inl ⟨j', bj, e1, e2, rfl⟩
 exact
 { sub := fun x hx => ⟨g.sub x hx, fun e => A.o.2 (hbb ▸ e ▸ hx)⟩
   old := fun x hx hx' => g.old x hx hx'.1
   lone := g.lone
   gh := fun _ j' t' hj' => by
     rw [St.get_put, if_neg (Nat.ne_of_lt hd), St.get_put, if_pos rfl] at hj'
     cases hj'
     rw [hJ]
     refine ⟨gBase_kp b1 (fun x e => by subst e; exact G.mo.1) k1, fun x hx => ?_, fun mb' j' e hj' => ?_⟩
     · rcases hEx x hx with hx | rfl
       · exact b2 x hx
       · exact A.o.1
     · obtain ⟨rfl, rfl⟩ := gIx_inj e (Nat.le_of_lt hi) hj'
       rw [hbb]
       exact ⟨hi, G'.stable (Kp.refl _ _) fun x hx => ⟨.inl (hEx x hx), by
         rcases hEx x hx with ⟨j', bj, e1, e2, rfl⟩ | rfl
         · exact Nat.lt_of_lt_of_le (h.lt j' bj e1 e2) k1.size
         · exact Nat.lt_of_lt_of_le A.lt k1.size⟩⟩
   marks := by
     obtain ⟨mk, m1, m2, m3⟩ := g.marks
     rw [g.lone hon] at m1
     have e1 : mk = [] := (List.append_eq_nil_iff.1 m1.symm).1
     subst e1
     exact ⟨[], by rw [show (a.put (some d) _).defers = a.defers from rfl, g.lone hon]; exact m1, m2, fun d' hd' => by cases hd'⟩ }
theorem R.make (hR : R Γ s a w) (hG : GCtx C sz L Γ) {i mb : Nat} (hgh : s.get Γ.N = .gh (gIx L.length mb i) false) (hi : i < L.length) {t kt et : TypeId} (ht : Γ.P.underlying t = some (.map kt et)) (hz : ∀ u : World, (zeroValue et).run Γ.P u = .ok (.slice none 0 0) u) (hok : C.ok Γ.P kt = true)
   (hno : L[i].1 ∉ gks (L.take i)) {d : Nat} (hd : d < Γ.N) :
   ∃ v w', (Instr.mapEntry t (.map (some mb)) (C.val L[i].1)).run Γ.P w = .ok v w' ∧
     R Γ ((s.put Γ.N (.gh (gIx L.length mb i) true)).put d (.tup [.pure (.val (.slice none 0 0)), .int (gks (L.take i)).length])) (a.put (some d) v) w' := by
 obtain ⟨X, β, h, g⟩ := hR
 obtain ⟨hon, hJ, hdf, hβ0, hX0⟩ := hG
 have hj0 := g.gh hon _ _ hgh
 rw [hJ] at hj0
 obtain ⟨b1, b2, b3⟩ := hj0
 have G : GMap C sz mb (gOld Γ.w0 Γ.X) (L.take i) none X (Ex β) w := b3 mb i rfl (Nat.le_of_lt hi)
 obtain ⟨w', r1, k1, G'⟩ := G.make ht hz hok hno L[i].2
 have h1 := h.others (Γ := Γ) (X' := X) k1 (fun x e => e ▸ G.mx) (fun x hx e => by subst e; have h9 : Γ.w0.heap.size ≤ x := G.mo.1; omega) (fun x _ hx => hx) (fun x hx => Nat.lt_of_lt_of_le (h.Xlt x hx) k1.size)
 have h3 := (h1.putG (Γ := Γ.atX _) (gIx L.length mb i) true).put (d := d) (v := .tup [.pure (.val (.slice none 0 0)), .int (gks (L.take i)).length]) (u := .tuple #[.slice none 0 0, goInt (gks (L.take i)).length]) hd
   (.tup _ _ rfl fun m p hp => by
     match m, hp with
     | 0, hp => cases hp; exact .pure _ _ (.val _)
     | 1, hp => cases hp; exact .pure _ _ (.val _))
   (by simp [AV.keys, AV.keysL])
 refine ⟨_, w', r1, _, _, h3, ?_⟩
 exact
 { sub := g.sub
   old := g.old
   lone := g.lone
   gh := fun _ j' t' hj' => by
     rw [St.get_put, if_neg (Nat.ne_of_lt hd), St.get_put, if_pos rfl] at hj'
     cases hj'
     rw [hJ]
     refine ⟨gBase_kp b1 (fun x e => by subst e; exact G.mo.1) k1, b2, fun mb' j' e hj' => ?_⟩
     obtain ⟨rfl, rfl⟩ := gIx_inj e (Nat.le_of_lt hi) hj'
     exact ⟨hi, G'⟩
   marks := by
     obtain ⟨mk, m1, m2, m3⟩ := g.marks
     rw [g.lone hon] at m1
     have e1 : mk = [] := (List.append_eq_nil_iff.1 m1.symm).1
     subst e1
     exact ⟨[], by rw [show (a.put (some d) _).defers = a.defers from rfl, g.lone hon]; exact m1, m2, fun d' hd' => by cases hd'⟩ }
theorem BOK.plain {w : World} {A : Nat → Prop} {β : BM} {bi : BI} {sz : Nat} {rows : List (List PV)} (h : BOK w A β bi (.row sz rows)) (hv : ∀ r ∈ rows, ∀ p ∈ r, ∃ v, p = .val v) : BOK w (fun _ => True) (fun _ => none) bi (.row sz rows) := by
 obtain ⟨h1, h2, h2', h3, h4⟩ := h
 refine ⟨h1, h2, h2', h3, ?_⟩
 rcases h4 with h4 | ⟨h4, cs, e, fz, h5, h6, h7, h8, h9⟩
 · exact .inl h4
 · refine .inr ⟨h4, cs, e, fz, h5, h6, h7, h8, fun i row j p hi hj => ⟨?_, (h9 i row j p hi hj).2⟩⟩
   obtain ⟨v, rfl⟩ := hv row (List.mem_of_getElem? hi) p (List.mem_of_getElem? hj)
   rw [(h9 i row j _ hi hj).1.val_inv]
   exact .val v
theorem R.back (hR : R Γ s a w) (hG : GCtx C sz L Γ) (hval : ∀ q ∈ L, ∀ p ∈ q.2, ∃ v, p = .val v) {i mb : Nat} (hgh : s.get Γ.N = .gh (gIx L.length mb i) true) (hi : i < L.length) {j : Nat} (hj : j < (gks (L.take (i + 1))).length) (hkj : (gks (L.take (i + 1)))[j] = L[i].1)
   {k : Nat} (hfx : k ∉ Γ.fx) (hblk : s.blk k = some (.row sz (grw (L.take (i + 1)) L[i].1))) {o : Operand} (ho : s.geto o = .lsl k 0 (grw (L.take (i + 1)) L[i].1).length) {t : TypeId} :
   ∃ w', (Instr.entryStore t (.map (some mb)) (goInt j) (a.eval o)).run Γ.P w = .ok () w' ∧ R Γ ((s.kill k).put Γ.N (.gh (gIx L.length mb (i + 1)) false)) a w' := by
 obtain ⟨X, β, h, g⟩ := hR
 obtain ⟨hon, hJ, hdf, hβ0, hX0⟩ := hG
 have hj0 := g.gh hon _ _ hgh
 rw [hJ] at hj0
 obtain ⟨b1, b2, b3⟩ := hj0
 obtain ⟨_, G⟩ : ∃ h : i < L.length, GMap C sz mb (gOld Γ.w0 Γ.X) (L.take i ++ [L[i]]) (some L[i].1) X (Ex β) w := b3 mb i rfl (Nat.le_of_lt hi)
 rw [← take_at hi] at G
 have hpos : 0 < (grw (L.take (i + 1)) L[i].1).length := by rw [take_at hi, grw_snoc, if_pos rfl]; simp
 obtain ⟨bi, hβ, hb⟩ := h.live hblk
 have hev := geto_AR h o
 rw [ho] at hev
 have hplain := hb.plain fun r hr p hp => by
   unfold grw at hr
   rw [List.mem_map] at hr
   obtain ⟨q, hq, rfl⟩ := hr
   exact hval q (List.mem_of_mem_take (List.mem_filter.1 hq).1) p hp
 obtain ⟨N, hN⟩ : ∃ N, N = (grw (L.take (i + 1)) L[i].1).length := ⟨_, rfl⟩
 rw [← hN] at hev hpos
 obtain ⟨cap, v1, v2, v3, v4, v5⟩ : ∃ cap, a.eval o = .slice (some ⟨bi.b, 0, none⟩) N cap ∧ bi.virt = false ∧ N ≤ cap ∧ cap * bi.sz ≤ bi.tot ∧ cap ≤ maxLen := by
   generalize a.eval o = u at hev
   cases hev with
   | lslDead _ _ _ _ hd => rw [hβ] at hd; cases hd
   | lslV _ _ _ _ hb' => exact absurd hpos (by omega)
   | lsl _ _ _ bi' cap hb' hv hn hc hil hm =>
     rw [hβ] at hb'
     cases hb'
     exact ⟨cap, by rw [Nat.zero_mul], hv, hn, by simpa using hc, hm⟩
 have hnX : ¬ X bi.b := h.notX k bi hβ v2
 have hold : Γ.w0.heap.size ≤ bi.b := by
   rcases h.own k bi hβ v2 with h1 | h1
   · exact h1
   · exfalso
     have h1' : Ex Γ.β0 bi.b := h1
     rw [hβ0] at h1'
     obtain ⟨k', bj, e1, e2, e3⟩ := h1'
     unfold bmOf at e1
     split at e1
     · rename_i hx
       cases e1
       rw [← e3] at hnX
       exact hnX (g.sub _ hx)
     · cases e1
 have hne : bi.b ≠ mb := fun e => hnX (e ▸ G.mx)
 have hszb : bi.sz = sz := hplain.1
 have hlen : bi.len = (grw (L.take (i + 1)) L[i].1).length := hplain.2.2.1.symm
 obtain ⟨β', hβ'⟩ : ∃ β' : BM, β' = fun j => if j = k then none else β j := ⟨_, rfl⟩
 have hEx : ∀ x, Ex β' x → Ex β x ∧ x ≠ bi.b := by
   rintro x ⟨j', bj, e1, e2, rfl⟩
   rw [hβ'] at e1
   by_cases e : j' = k
   · simp [e] at e1
   · simp only [if_neg e] at e1
     exact ⟨⟨j', bj, e1, e2, rfl⟩, fun eq => e (h.inj j' k bj bi e1 hβ e2 v2 eq)⟩
 have hA : GArr sz mb (gOld Γ.w0 Γ.X) bi.b cap (grw (L.take (i + 1)) L[i].1) (fun x => X x ∨ x = bi.b) (Ex β') w := by
   refine ⟨.inr rfl, fun he => (hEx _ he).2 rfl, ⟨hold, fun hx => hnX (g.sub _ hx)⟩, h.lt k bi hβ v2, hne, by omega, v5, bi.tot, by rw [← hszb]; exact v4, ?_⟩
   have e : (⟨bi.b, sz, bi.tot, (grw (L.take (i + 1)) L[i].1).length, false⟩ : BI) = bi := by
     rw [← hszb, ← hlen, ← v2]
   rw [e]; exact hplain
 obtain ⟨w', r1, k1, G'⟩ := G.back (P := Γ.P) (t := t) hj hkj hnX hA hEx
 have h1 := h.release (Γ := Γ) hfx hβ v2
 rw [← hβ'] at h1
 have h2 := h1.others (Γ := Γ) (X' := fun x => X x ∨ x = bi.b) k1 (fun x e => e ▸ .inl G.mx) (fun x hx e => by subst e; have h9 : Γ.w0.heap.size ≤ x := G.mo.1; omega) (fun x _ hx => hx) (fun x hx => by
   rcases hx with hx | rfl
   · exact Nat.lt_of_lt_of_le (h.Xlt x hx) k1.size
   · exact Nat.lt_of_lt_of_le (h.lt k bi hβ v2) k1.size)
 refine ⟨w', by rw [v1, hN]; exact r1, _, _, h2.putG (Γ := Γ.atX _) (gIx L.length mb (i + 1)) false, ?_⟩
 exact
 { sub := fun x hx => .inl (g.sub x hx)
   old := fun x hx hx' => by
     rcases hx' with hx' | rfl
     · exact g.old x hx hx'
     · omega
   lone := g.lone
   gh := fun _ j' t' hj' => by
     rw [St.get_put, if_pos rfl] at hj'
     cases hj'
     rw [hJ]
     refine ⟨gBase_kp b1 (fun x e => by subst e; exact G.mo.1) k1, fun x hx => b2 x (hEx x hx).1, fun mb' j' e hj' => ?_⟩
     obtain ⟨rfl, rfl⟩ := gIx_inj e hi hj'
     exact G'
   marks := by
     obtain ⟨mk, m1, m2, m3⟩ := g.marks
     rw [g.lone hon] at m1
     have e1 : mk = [] := (List.append_eq_nil_iff.1 m1.symm).1
     subst e1
     exact ⟨[], by rw [g.lone hon]; exact m1, m2, fun d' hd' => by cases hd'⟩ }
end
end Go.Avc
/- Maps whose values are slices that grow: functions that make them. Conditions: none. -/
namespace Go.Avc
open Go.RowKit
section
variable {α : Type} [DecidableEq α] {C : MKey α} {sz : Nat} {L : List (α × List PV)} {Γ : Ctx} {s : St} {a : Act} {w : World} {F : Fence} {n : Nat} {more : St → Oper → Kont → Prop}
def KeyIs (C : MKey α) (x : AV) (k : α) : Prop := ∃ vs, valsOf (cellsOf x) = some vs ∧ C.val k = .agg vs.toArray ∧ ∃ c, x = .agg c ∨ ∃ d, x = .pure (.agg d) ∧ c = pures d
theorem Wp.grow (hm : MoreOK more Γ) (hF : FOK F) (hG : GCtx C sz L Γ) (hval : ∀ q ∈ L, ∀ p ∈ q.2, ∃ v, p = .val v) {id : Nat} {ops : Array Oper} {l1 l2 : List Oper} {o1 o2 : Oper} {t kt et : TypeId} {d k0 k1 : Nat} {m ky m2 st v : Operand}
   (hsp : ops.toList = l1 ++ (o1 :: (l2 ++ [o2]))) (ho1 : o1.op = .mapEntry t m ky) (hd1 : o1.dst = some d) (hg1 : o1.guard = none) (ho2 : o2.op = .entryStore t m2 st v) (hd2 : o2.dst = none) (hg2 : o2.guard = none) (hd : d < Γ.N)
   (ht : Γ.P.underlying t = some (.map kt et)) (hz : ∀ u : World, (zeroValue et).run Γ.P u = .ok (.slice none 0 0) u) (hok : C.ok Γ.P kt = true) {i mb : Nat} (hi : i < L.length) (hf0 : k0 ∉ Γ.fx) (hf1 : k1 ∉ Γ.fx) {K : Exit → St → Prop}
   (h : opsVC false more Γ.P Γ.pk Γ.y Γ.N Γ.fx ops.toList l1 s fun s1 =>
     s1.geto m = .pure (.val (.map (some mb))) ∧ KeyIs C (s1.geto ky) L[i].1 ∧ s1.get Γ.N = .gh (gIx L.length mb i) false ∧ k0 ∉ s1.used ∧
     ∀ (j : Nat) (x : AV) (s2 : St),
       ((x = .lsl k0 0 (grw (L.take i) L[i].1).length ∧ s2 = ((s1.new k0 (.row sz (grw (L.take i) L[i].1))).put Γ.N (.gh (gIx L.length mb i) true)).put d (.tup [x, .int j])) ∨
        (x = .pure (.val (.slice none 0 0)) ∧ grw (L.take i) L[i].1 = [] ∧ s2 = (s1.put Γ.N (.gh (gIx L.length mb i) true)).put d (.tup [x, .int j]))) →
       opsVC false more Γ.P Γ.pk Γ.y Γ.N Γ.fx ops.toList l2 s2 fun s3 =>
         s3.geto m2 = .pure (.val (.map (some mb))) ∧ s3.geto st = .int j ∧ s3.geto v = .lsl k1 0 (grw (L.take (i + 1)) L[i].1).length ∧ s3.blk k1 = some (.row sz (grw (L.take (i + 1)) L[i].1)) ∧ s3.get Γ.N = .gh (gIx L.length mb i) true ∧
         K .normal ((s3.kill k1).put Γ.N (.gh (gIx L.length mb (i + 1)) false))) : Wp Γ F n (.region id ops false) s K := by
 intro a w hR
 refine wpIn_region_list ?_
 have hpre := ops_pre (n := n) (l2 := o1 :: (l2 ++ [o2])) hm hF (Q := fun e a' w' => ∃ s', (K e s' ∨ EscS Γ e s') ∧ R Γ s' a' w') h hR ?_ fun e s' a' w' h1 h2 => ⟨s', .inr h1, h2⟩
 · rw [← hsp] at hpre
   simpa using hpre
 rintro s1 a1 w1 ⟨hm1, hk1, hgh1, hu1, hnext⟩ hR1
 -- what is read of the map and the key
 have hev : a1.eval m = .map (some mb) ∧ a1.eval ky = C.val L[i].1 := by
   obtain ⟨X, β, h0, g0⟩ := hR1
   obtain ⟨vs, c1, c2, c3⟩ := hk1
   refine ⟨?_, ?_⟩
   · have := geto_AR h0 m
     rw [hm1] at this
     exact this.val_inv
   · rw [c2]
     exact agg_of_vals (geto_AR h0 ky) c1 c3
 have last : ∀ (j : Nat) (s2 : St) (a2 : Act) (w2 : World), (hj : j < (gks (L.take (i + 1))).length) → (gks (L.take (i + 1)))[j] = L[i].1 → R Γ s2 a2 w2 → (opsVC false more Γ.P Γ.pk Γ.y Γ.N Γ.fx ops.toList l2 s2 fun s3 =>
         s3.geto m2 = .pure (.val (.map (some mb))) ∧ s3.geto st = .int j ∧ s3.geto v = .lsl k1 0 (grw (L.take (i + 1)) L[i].1).length ∧ s3.blk k1 = some (.row sz (grw (L.take (i + 1)) L[i].1)) ∧ s3.get Γ.N = .gh (gIx L.length mb i) true ∧
         K .normal ((s3.kill k1).put Γ.N (.gh (gIx L.length mb (i + 1)) false))) → wpListIn F n Γ.P ops.toList.toArray (fun e a' w' => ∃ s', (K e s' ∨ EscS Γ e s') ∧ R Γ s' a' w') (l2 ++ [o2]) a2 w2 := by
   intro j s2 a2 w2 hj hkj hR2 hv2
   refine ops_pre (n := n) hm hF hv2 hR2 ?_ fun e s' a' w' h1 h2 => ⟨s', .inr h1, h2⟩
   rintro s3 a3 w3 ⟨q1, q2, q3, q4, q5, q6⟩ hR3
   obtain ⟨w4, r1, r2⟩ := hR3.back hG hval (mb := mb) q5 hi hj hkj hf1 q4 q3 (t := t)
   have hev3 : a3.eval m2 = .map (some mb) ∧ a3.eval st = goInt j := by
     obtain ⟨X, β, h0, g0⟩ := hR3
     refine ⟨?_, ?_⟩
     · have := geto_AR h0 m2
       rw [q1] at this
       exact this.val_inv
     · have := geto_AR h0 st
       rw [q2] at this
       exact this.val_inv
   refine wpListIn_plain hg2 fun K' hK' => ?_
   refine wpIn_of_skip hF (by rw [ho2]; intro c; simp) (w' := w4) (by simp [execOp, ho2, hev3.1, hev3.2, r1]) (hK' _ _ ?_)
   rw [hd2]
   exact ⟨_, .inl q6, r2⟩
 refine wpListIn_plain hg1 fun K' hK' => ?_
 have hks : gks (L.take (i + 1)) = if L[i].1 ∈ gks (L.take i) then gks (L.take i) else gks (L.take i) ++ [L[i].1] := by rw [take_at hi, gks_snoc]
 by_cases hmem : L[i].1 ∈ gks (L.take i)
 · rw [if_pos hmem] at hks
   obtain ⟨j, hj, hkj⟩ := List.getElem_of_mem hmem
   obtain ⟨v', w', r1, r2⟩ := hR1.take hG hgh1 hi ht hok hj hkj hd hu1 hf0
   refine wpIn_of_run hF (by rw [ho1]; intro c; simp) (v := v') (w' := w') (by simp [execOp, ho1, hev.1, hev.2, r1]) (hK' _ _ ?_)
   rw [hd1]
   exact last j _ _ _ (by rw [hks]; exact hj) (by simp only [hks]; exact hkj) r2 (hnext j _ _ (.inl ⟨rfl, rfl⟩))
 · rw [if_neg hmem] at hks
   obtain ⟨v', w', r1, r2⟩ := hR1.make hG hgh1 hi ht hz hok hmem hd
   refine wpIn_of_run hF (by rw [ho1]; intro c; simp) (v := v') (w' := w') (by simp [execOp, ho1, hev.1, hev.2, r1]) (hK' _ _ ?_)
   rw [hd1]
   exact last (gks (L.take i)).length _ _ _ (by rw [hks]; simp) (by simp [hks]) r2 (hnext _ _ _ (.inr ⟨rfl, grw_none hmem, rfl⟩))
end
end Go.Avc
/- Maps whose values are slices that grow: the contract of a function that makes one. Conditions: none. -/
namespace Go.Avc
open Go.RowKit
end Go.Avc
/- Code with regions that the reader shows himself. Conditions: none. -/
namespace Go.Avc
open Go.RowKit
section
variable {more : St → Oper → Kont → Prop} {Γ : Ctx} {F : Fence} {n : Nat} {s : St} {a : Act} {w : World} {β : BM}
end
end Go.Avc
/- Loops over maps: the iterator, a step of it, what it handed out. Conditions: none. -/
namespace Go.Avc
open Go.RowKit
def pk2 (a b : Nat) : Nat := 2 ^ a * (2 * b + 1)
theorem pk2_pos (a b : Nat) : 0 < pk2 a b := Nat.mul_pos (Nat.pow_pos (by omega)) (by omega)
theorem pk2_inj : ∀ {a b c d : Nat}, pk2 a b = pk2 c d → a = c ∧ b = d
 | 0, b, 0, d, h => by simp only [pk2, Nat.pow_zero, Nat.one_mul] at h; exact ⟨rfl, by omega⟩
 | 0, b, c + 1, d, h => by
   have e : pk2 (c + 1) d = 2 * pk2 c d := by simp only [pk2, Nat.pow_succ]; rw [Nat.mul_comm (2 ^ c) 2, Nat.mul_assoc]
   rw [e] at h
   simp only [pk2, Nat.pow_zero, Nat.one_mul] at h
   omega
 | a + 1, b, 0, d, h => by
   have e : pk2 (a + 1) b = 2 * pk2 a b := by simp only [pk2, Nat.pow_succ]; rw [Nat.mul_comm (2 ^ a) 2, Nat.mul_assoc]
   rw [e] at h
   simp only [pk2, Nat.pow_zero, Nat.one_mul] at h
   omega
 | a + 1, b, c + 1, d, h => by
   have e : ∀ x y, pk2 (x + 1) y = 2 * pk2 x y := fun x y => by simp only [pk2, Nat.pow_succ]; rw [Nat.mul_comm (2 ^ x) 2, Nat.mul_assoc]
   rw [e, e] at h
   obtain ⟨h1, h2⟩ := pk2_inj (a := a) (b := b) (c := c) (d := d) (by omega)
   exact ⟨by omega, h2⟩
def pkL : List Nat → Nat
 | [] => 0
 | a :: l => pk2 a (pkL l)
theorem pkL_inj : ∀ {l m : List Nat}, pkL l = pkL m → l = m
 | [], [], _ => rfl
 | [], b :: m, h => by have := pk2_pos b (pkL m); simp only [pkL] at h; omega
 | a :: l, [], h => by have := pk2_pos a (pkL l); simp only [pkL] at h; omega
 | a :: l, b :: m, h => by
   obtain ⟨h1, h2⟩ := pk2_inj h
   rw [h1, pkL_inj h2]
structure IterAt (ks : List Value) (vs : List PV) (w0 : World) (r : Nat) (js : List Nat) (X E : Nat → Prop) (w : World) : Prop where
 x : X r
 e : ¬ E r
 o : w0.heap.size ≤ r
 lt : r < w.heap.size
 nd : js.Nodup
 bd : ∀ j ∈ js, j < ks.length
 ex : ∃ mb ms clock, PR w (fun b => X b ∨ E b) (.mp ks vs) (.map (some mb)) ∧ w.heap[mb]? = some (.map ms clock) ∧ w.heap[r]? = some (.mapIter (some mb) clock (js.map fun j => (ms.getD j default).born).toArray clock)
variable {ks : List Value} {vs : List PV} {w0 : World}
theorem Ad.of_kp {X E E' : Nat → Prop} {w w' : World} (hk : Kp E w w') (hE : ∀ b, E' b → (E b ∨ w.heap.size ≤ b) ∧ b < w'.heap.size) : Ad w (fun b => X b ∨ E b) w' (fun b => X b ∨ E' b) :=
 ⟨hk.size, fun b hb hn => ⟨hk.block b hb fun h => hn (.inr h), fun h => by
   rcases h with h | h
   · exact hn (.inl h)
   · rcases (hE b h).1 with h1 | h1
     · exact hn (.inr h1)
     · omega⟩⟩
theorem IterAt.stable {r : Nat} {js : List Nat} {X E E' : Nat → Prop} {w w' : World} (h : IterAt ks vs w0 r js X E w) (hk : Kp E w w') (hE : ∀ b, E' b → (E b ∨ w.heap.size ≤ b) ∧ b < w'.heap.size) : IterAt ks vs w0 r js X E' w' := by
 obtain ⟨mb, ms, clock, h1, h2, h3⟩ := h.ex
 have hm : mb < w.heap.size ∧ ¬ E mb := by
   cases h1 with
   | mp _ _ b es clock us hb hm hl hkk hp => exact ⟨hb.1, fun he => hb.2 (.inr he)⟩
 refine ⟨h.x, fun he => ?_, h.o, Nat.lt_of_lt_of_le h.lt hk.size, h.nd, h.bd, mb, ms, clock, h1.mono (Ad.of_kp hk hE), (hk.block mb hm.1 hm.2).trans h2, (hk.block r h.lt h.e).trans h3⟩
 rcases (hE r he).1 with h5 | h5
 · exact h.e h5
 · have := h.lt; omega
def iJ (ks : List Value) (vs : List PV) (w0 : World) (i : Nat) (_ : Bool) (X E : Nat → Prop) (w : World) : Prop :=
 Kp (fun _ => False) w0 w ∧ (∀ b, E b → w0.heap.size ≤ b) ∧ ∀ r js, i = pkL (r :: js) → IterAt ks vs w0 r js X E w
theorem iJ_stable (i : Nat) (t : Bool) (X E E' : Nat → Prop) (w w' : World) (h : iJ ks vs w0 i t X E w) (hk : Kp E w w') (hE : ∀ b, E' b → (E b ∨ w.heap.size ≤ b) ∧ b < w'.heap.size) : iJ ks vs w0 i t X E' w' := by
 obtain ⟨h1, h2, h3⟩ := h
 refine ⟨gBase_kp h1 h2 hk, fun b hb => ?_, fun r js e => (h3 r js e).stable hk hE⟩
 rcases (hE b hb).1 with h | h
 · exact h2 b h
 · exact Nat.le_trans h1.size h
def iY (P : Program) (ks : List Value) (vs : List PV) (w0 : World) : Yl P := ⟨true, false, 0, [], iJ ks vs w0, iJ_stable, fun i row X E W args _ h => by simp at h⟩
def ICtx (ks : List Value) (vs : List PV) (Γ : Ctx) : Prop := Γ.y.on = true ∧ Γ.y.J = iJ ks vs Γ.w0 ∧ Γ.df = [] ∧ Γ.β0 = bmOf Γ.X ∧ ∀ b, Γ.X b → b < Γ.w0.heap.size
section
variable {Γ : Ctx} {s : St} {a : Act} {w : World}
theorem marksNil {Γ : Ctx} {X : Nat → Prop} {β : BM} {s : St} {ds : List Deferred} {w w' : World} (g : Gh Γ X β s ds w) (hon : Γ.y.on = true) {X' : Nat → Prop} : ∃ mk : List Deferred, ds = mk ++ Γ.df ∧ mk.Nodup ∧ ∀ d ∈ mk, ∃ D, d = { target := .collected D, args := #[] } ∧ w'.heap[D]? = some (.deferred (some [])) ∧ (Γ.y.rd = false → Γ.w0.heap.size ≤ D) ∧ X' D := by
 obtain ⟨mk, m1, m2, m3⟩ := g.marks
 rw [g.lone hon] at m1
 have e1 : mk = [] := (List.append_eq_nil_iff.1 m1.symm).1
 subst e1
 exact ⟨[], by rw [g.lone hon]; exact m1, m2, fun d' hd' => by cases hd'⟩
theorem map_val {w : World} {A : Nat → Prop} {v : Value} (h : PR w A (.mp ks vs) v) : ∃ mb ms clock, v = .map (some mb) ∧ mb < w.heap.size ∧ ¬ A mb ∧ w.heap[mb]? = some (.map ms clock) ∧ ms.size = ks.length ∧ ms.size = vs.length ∧ Stamps ms clock ∧
   (∀ (i : Nat) (e : MapEntry), ms[i]? = some e → ks[i]? = some e.key) ∧ ∀ (i : Nat) (e : MapEntry) (p : PV), ms[i]? = some e → vs[i]? = some p → PR w A p e.val := by
 cases h with
 | mp _ _ b ms clock us hb hm hl hk hp =>
   refine ⟨b, ms, clock, rfl, hb.1, hb.2, hm, hl.1, hl.2.1, hl.2.2, fun i e he => (hk i e he).1, fun i e p he hv => ?_⟩
   rw [(hk i e he).2]
   exact hp i p hv
theorem R.mkIter (hR : R Γ s a w) (hG : ICtx ks vs Γ) (hgh : s.get Γ.N = .gh 0 false) {x : Operand} (hx : s.geto x = .pure (.mp ks vs)) {t kt et : TypeId} (ht : Γ.P.underlying t = some (.map kt et)) {d : Nat} (hd : d < Γ.N) :
   ∃ r w', (Instr.range t (a.eval x)).run Γ.P w = .ok (.pointer (some ⟨r, 0, none⟩)) w' ∧
   R Γ ((s.put Γ.N (.gh (pkL [r]) false)).put d (.pure (.val (.pointer (some ⟨r, 0, none⟩))))) (a.put (some d) (.pointer (some ⟨r, 0, none⟩))) w' := by
 obtain ⟨X, β, h, g⟩ := hR
 obtain ⟨hon, hJ, hdf, hβ0, hX0⟩ := hG
 have hj0 := g.gh hon _ _ hgh
 rw [hJ] at hj0
 obtain ⟨b1, b2, _⟩ := hj0
 have hpr : PR w (Av X β) (.mp ks vs) (a.eval x) := by
   have := geto_AR h x
   rw [hx] at this
   cases this with
   | pure _ _ hp => exact hp
 obtain ⟨mb, ms, clock, hv, m1, m2, m3, m4, m5, m6, m7, m8⟩ := map_val hpr
 rw [hv] at hpr
 obtain ⟨o, ho⟩ : ∃ o : Obj, o = .mapIter (some mb) clock #[] clock := ⟨_, rfl⟩
 have k1 : Kp (fun _ => False) w (w.alloc o) := ⟨rfl, tpr, rfl, by simp, fun b hb _ => heap_alloc_old _ _ hb⟩
 have h1 := h.others (Γ := Γ) (X' := fun x => X x ∨ x = w.heap.size) k1 (fun x e => e.elim) (fun x hx e => e.elim) (fun x hx h' => by
   rcases h' with h' | rfl
   · exact h'
   · omega) (fun x hx => by
   rcases hx with hx | rfl
   · exact Nat.lt_of_lt_of_le (h.Xlt x hx) k1.size
   · simp)
 refine ⟨w.heap.size, w.alloc o, by rw [hv, ho]; exact run_range_map w t kt et mb ms clock ht m3, _, _, (h1.putG (Γ := Γ.atX _) (pkL [w.heap.size]) false).put (d := d) (v := .pure (.val (.pointer (some ⟨w.heap.size, 0, none⟩)))) hd (.pure _ _ (.val _)) (by simp [AV.keys]), ?_⟩
 have hsz : Γ.w0.heap.size ≤ w.heap.size := b1.size
 exact
 { sub := fun x hx => .inl (g.sub x hx)
   old := fun x hx hx' => by
     rcases hx' with hx' | rfl
     · exact g.old x hx hx'
     · omega
   lone := g.lone
   gh := fun _ j' t' hj' => by
     rw [St.get_put, if_neg (Nat.ne_of_lt hd), St.get_put, if_pos rfl] at hj'
     cases hj'
     rw [hJ]
     refine ⟨gBase_kp b1 (fun x e => e.elim) k1, b2, fun r js e => ?_⟩
     have e := pkL_inj e
     cases e
     refine ⟨.inr rfl, ?_, hsz, by simp, List.nodup_nil, by simp, mb, ms, clock, hpr.mono ⟨k1.size, fun b hb hn => ⟨k1.block b hb fun h => h, ?_⟩⟩, (k1.block mb m1 fun h => h).trans m3, ?_⟩
     · rintro ⟨k, bi, e1, e2, e3⟩
       have := h.lt k bi e1 e2
       omega
     · rintro ((h | h) | h)
       · exact hn (.inl h)
       · omega
       · exact hn (.inr h)
     · rw [ho]; exact World.alloc_heap_new w _
   marks := marksNil g hon }
theorem mem_leftOf {es : Array MapEntry} {seen : Array Nat} {e : MapEntry} (h : e ∈ (leftOf es seen).toList) : e ∈ es.toList ∧ seen.contains e.born = false := by
 unfold leftOf at h
 simp at h
 simp [h.1, h.2]
theorem left_none {es : Array MapEntry} {seen : Array Nat} (h : (leftOf es seen).size = 0) : ∀ e ∈ es.toList, seen.contains e.born = true := by
 intro e he
 cases hs : seen.contains e.born with
 | true => rfl
 | false =>
   exfalso
   have : e ∈ leftOf es seen := by
     unfold leftOf
     simp only [Array.mem_filter]
     exact ⟨by simpa using he, by rw [hs]; rfl⟩
   have h0 : leftOf es seen = #[] := Array.eq_empty_of_size_eq_zero h
   rw [h0] at this
   simp at this
theorem R.nextIter (hR : R Γ s a w) (hG : ICtx ks vs Γ) (kp : Nat → PV) (hkp : ∀ (j : Nat) (k : Value), ks[j]? = some k → ∀ (w : World) (A : Nat → Prop), PR w A (kp j) k) {r : Nat} {js : List Nat} (hgh : s.get Γ.N = .gh (pkL (r :: js)) false)
   {x : Operand} (hx : s.geto x = .pure (.val (.pointer (some ⟨r, 0, none⟩)))) {ty : TypeId} {d : Nat} (hd : d < Γ.N) :
   ((∀ j, j < ks.length → j ∈ js) ∧ (Instr.next (a.eval x) false ty).run Γ.P w = .ok (.tuple #[.bool false]) w ∧ R Γ (s.put d (.tup [.bool false])) (a.put (some d) (.tuple #[.bool false])) w) ∨
   ∃ j p v w', j < ks.length ∧ j ∉ js ∧ vs[j]? = some p ∧ (Instr.next (a.eval x) false ty).run Γ.P w = .ok v w' ∧
     R Γ ((s.put Γ.N (.gh (pkL (r :: (js ++ [j]))) false)).put d (.tup [.bool true, .pure (kp j), .pure p])) (a.put (some d) v) w' := by
 obtain ⟨X, β, h, g⟩ := hR
 obtain ⟨hon, hJ, hdf, hβ0, hX0⟩ := hG
 have hj0 := g.gh hon _ _ hgh
 rw [hJ] at hj0
 obtain ⟨b1, b2, b3⟩ := hj0
 have I : IterAt ks vs Γ.w0 r js X (Ex β) w := b3 r js rfl
 have hev : a.eval x = .pointer (some ⟨r, 0, none⟩) := by
   have := geto_AR h x
   rw [hx] at this
   exact this.val_inv
 obtain ⟨mb, ms, clock, hpr, hmb, hr⟩ := I.ex
 obtain ⟨mb', ms', clock', hv, m1, m2, m3, m4, m5, m6, m7, m8⟩ := map_val hpr
 cases hv
 rw [hmb] at m3
 cases m3
 obtain ⟨st1, st2⟩ := m6
 -- an entry's place
 have hplace : ∀ e ∈ ms.toList, ∃ j, j < ks.length ∧ ms[j]? = some e := fun e he => by
   obtain ⟨j, hj, hje⟩ := List.getElem_of_mem he
   have hj' : j < ms.size := by simpa using hj
   exact ⟨j, by omega, by rw [Array.getElem?_eq_getElem hj']; simpa using hje⟩
 have hgetD : ∀ {j : Nat} {e : MapEntry}, ms[j]? = some e → ms.getD j default = e := fun {_ _} he => by rw [Array.getD_eq_getD_getElem?, he]; rfl
 have hborn : ∀ {i j : Nat} {e f : MapEntry}, ms[i]? = some e → ms[j]? = some f → e.born = f.born → i = j := fun {i j e f} hi hj hb => by
   have hi' := (Array.getElem?_eq_some_iff.1 hi)
   have hj' := (Array.getElem?_eq_some_iff.1 hj)
   obtain ⟨i1, i2⟩ := hi'
   obtain ⟨j1, j2⟩ := hj'
   have l1' : i < (ms.toList.map (·.born)).length := by simpa using i1
   have l2' : j < (ms.toList.map (·.born)).length := by simpa using j1
   refine (List.getElem_inj (h₀ := l1') (h₁ := l2') st1).1 ?_
   simp only [List.getElem_map, Array.getElem_toList]
   rw [i2, j2, hb]
 have hcont : ∀ {j : Nat} {e : MapEntry}, ms[j]? = some e → ((js.map fun j => (ms.getD j default).born).toArray.contains e.born = true ↔ j ∈ js) := fun {j e} he => by
   rw [Array.contains_iff_mem]
   simp only [List.mem_toArray, List.mem_map]
   constructor
   · rintro ⟨i, hi, hb⟩
     have hil : i < ms.size := by rw [m4]; exact I.bd i hi
     have hie : ms[i]? = some ms[i] := Array.getElem?_eq_getElem hil
     rw [hgetD hie] at hb
     have := hborn hie he hb
     subst this
     exact hi
   · intro hj
     exact ⟨j, hj, by rw [hgetD he]⟩
 rw [hev]
 rcases run_next_at (P := Γ.P) w ty r mb clock clock _ ms clock hr hmb st2 (Nat.le_refl _) with ⟨h0, hrun⟩ | ⟨e, he, w1, hal, hrun⟩
 · refine .inl ⟨fun j hj => ?_, hrun, X, β, h.put (d := d) (v := .tup [.bool false]) (u := .tuple #[.bool false]) hd (.tup _ _ rfl fun m p hp => by
     match m, hp with
     | 0, hp => cases hp; exact .pure _ _ (.val _)) (by simp [AV.keys, AV.keysL]), g.sub, g.old, fun hon' i t hi => ?_, g.lone, g.marks⟩
   · have hjm : j < ms.size := by omega
     have hje : ms[j]? = some ms[j] := Array.getElem?_eq_getElem hjm
     exact (hcont hje).1 (left_none h0 ms[j] (by simp))
   · rw [St.get_put, if_neg (Nat.ne_of_lt hd)] at hi
     exact g.gh hon' i t hi
 · obtain ⟨hem, hes⟩ := mem_leftOf he
   obtain ⟨j, hj, hje⟩ := hplace e hem
   have hjn : j ∉ js := fun hj' => by
     rw [(hcont hje).2 hj'] at hes
     cases hes
   have hjv : j < vs.length := by omega
   obtain ⟨p, hp⟩ : ∃ p, vs[j]? = some p := ⟨_, List.getElem?_eq_getElem hjv⟩
   have hw1 : w1.heap = w.heap ∧ w1.os = w.os ∧ w1.tape = w.tape ∧ w1.output = w.output ∧ w.drawn ≤ w1.drawn := by
     rcases hal with rfl | rfl
     · exact ⟨rfl, rfl, rfl, rfl, Nat.le_refl _⟩
     · exact ⟨rfl, rfl, rfl, rfl, Nat.le_succ _⟩
   obtain ⟨q1, q2, q3, q4, q5⟩ := hw1
   have hr1 : w1.heap[r]? = some (.mapIter (some mb) clock (js.map fun j => (ms.getD j default).born).toArray clock) := by rw [q1]; exact hr
   have hset := MapKept.heap_set (o' := .mapIter (some mb) clock ((js.map fun j => (ms.getD j default).born).toArray.push e.born) clock) hr1
   obtain ⟨w', hw'⟩ : ∃ w', w' = ChangeMaps.setBlock w1 r (.mapIter (some mb) clock ((js.map fun j => (ms.getD j default).born).toArray.push e.born) clock) := ⟨_, rfl⟩
   rw [← hw'] at hrun
   have k1 : Kp (fun x => x = r) w w' := by
     rw [hw']
     exact ⟨q2, ⟨q3, q5⟩, q4, by simp [ChangeMaps.setBlock, q1], fun b hb hn => by
       rw [← q1]
       exact hset.2 b hn⟩
   have h1 := h.others (Γ := Γ) (X' := X) k1 (fun x e => e ▸ I.x) (fun x hx e => by subst e; have h9 := I.o; omega) (fun x _ hx => hx) (fun x hx => Nat.lt_of_lt_of_le (h.Xlt x hx) k1.size)
   have hval : PR w (fun b => X b ∨ Ex β b) p e.val := m8 j e p hje hp
   have hadr : Ad w (fun b => X b ∨ Ex β b) w' (fun b => X b ∨ Ex β b) := ⟨k1.size, fun b hb hn => ⟨k1.block b hb fun e => hn (.inl (e ▸ I.x)), hn⟩⟩
   have hval' : PR w' (Av X β) p e.val := hval.mono ⟨k1.size, fun b hb hn => ⟨k1.block b hb fun e => hn (.inl (e ▸ I.x)), hn⟩⟩
   have hks : ks[j]? = some e.key := m7 j e hje
   refine .inr ⟨j, p, _, w', hj, hjn, hp, hrun, X, β, (h1.putG (Γ := Γ.atX _) (pkL (r :: (js ++ [j]))) false).put (d := d) (v := .tup [.bool true, .pure (kp j), .pure p]) (u := .tuple #[.bool true, e.key, e.val]) hd
     (.tup _ _ rfl fun m q hq => by
       match m, hq with
       | 0, hq => cases hq; exact .pure _ _ (.val _)
       | 1, hq => cases hq; exact .pure _ _ (hkp j _ hks _ _)
       | 2, hq => cases hq; exact .pure _ _ hval')
     (by simp [AV.keys, AV.keysL]), ?_⟩
   exact
   { sub := g.sub
     old := g.old
     lone := g.lone
     gh := fun _ j' t' hj' => by
       rw [St.get_put, if_neg (Nat.ne_of_lt hd), St.get_put, if_pos rfl] at hj'
       cases hj'
       rw [hJ]
       refine ⟨gBase_kp b1 (fun x e => by subst e; exact I.o) k1, b2, fun r' js' e' => ?_⟩
       have e' := pkL_inj e'
       cases e'
       refine ⟨I.x, I.e, I.o, Nat.lt_of_lt_of_le I.lt k1.size, List.nodup_append.2 ⟨I.nd, by simp, fun x hx y hy e2 => by rw [List.mem_singleton] at hy; subst hy; subst e2; exact hjn hx⟩, fun y hy => ?_, mb, ms, clock, hpr.mono hadr, ?_, ?_⟩
       · rcases List.mem_append.1 hy with hy | hy
         · exact I.bd y hy
         · rw [List.mem_singleton] at hy; subst hy; exact hj
       · refine (k1.block mb m1 fun e2 => ?_).trans hmb
         subst e2
         rw [hr] at hmb
         cases hmb
       · have e3 : ((js ++ [j]).map fun j => (ms.getD j default).born).toArray = (js.map fun j => (ms.getD j default).born).toArray.push e.born := by
           rw [List.map_append, List.map_singleton, hgetD hje]
           simp
         rw [e3, hw']
         exact hset.1
     marks := marksNil g hon }
theorem R.entryIter (hR : R Γ s a w) (hG : ICtx ks vs Γ) (kp : Nat → PV) (hkp : ∀ (j : Nat) (k : Value), ks[j]? = some k → ∀ (w : World) (A : Nat → Prop), PR w A (kp j) k) {r j : Nat} {js : List Nat} (hgh : s.get Γ.N = .gh (pkL (r :: (js ++ [j]))) false)
   {x : Operand} (hx : s.geto x = .pure (.val (.pointer (some ⟨r, 0, none⟩)))) {p : PV} (hp : vs[j]? = some p) {d : Nat} (hd : d < Γ.N) :
   ∃ v, (Instr.entry (a.eval x)).run Γ.P w = .ok v w ∧ R Γ (s.put d (.tup [.pure (kp j), .pure p])) (a.put (some d) v) w := by
 obtain ⟨X, β, h, g⟩ := hR
 obtain ⟨hon, hJ, hdf, hβ0, hX0⟩ := hG
 have hj0 := g.gh hon _ _ hgh
 rw [hJ] at hj0
 obtain ⟨b1, b2, b3⟩ := hj0
 have I : IterAt ks vs Γ.w0 r (js ++ [j]) X (Ex β) w := b3 r _ rfl
 have hev : a.eval x = .pointer (some ⟨r, 0, none⟩) := by
   have := geto_AR h x
   rw [hx] at this
   exact this.val_inv
 obtain ⟨mb, ms, clock, hpr, hmb, hr⟩ := I.ex
 obtain ⟨mb', ms', clock', hv, m1, m2, m3, m4, m5, m6, m7, m8⟩ := map_val hpr
 cases hv
 rw [hmb] at m3
 cases m3
 have hj : j < ms.size := by rw [m4]; exact I.bd j (by simp)
 have hje : ms[j]? = some ms[j] := Array.getElem?_eq_getElem hj
 have hgd : (ms.getD j default) = ms[j] := by rw [Array.getD_eq_getD_getElem?, hje]; rfl
 have e3 : ((js ++ [j]).map fun j => (ms.getD j default).born).toArray = (js.map fun j => (ms.getD j default).born).toArray.push ms[j].born := by
   rw [List.map_append, List.map_singleton, hgd]
   simp
 rw [e3] at hr
 rw [hev]
 refine ⟨_, run_entry_at w r mb clock _ ms clock ms[j] hr hmb (by simp) m6.1, X, β, h.put (d := d) (v := .tup [.pure (kp j), .pure p]) (u := .tuple #[ms[j].key, ms[j].val]) hd (.tup _ _ rfl fun m q hq => by
     match m, hq with
     | 0, hq => cases hq; exact .pure _ _ (hkp j _ (m7 j _ hje) _ _)
     | 1, hq => cases hq; exact .pure _ _ (m8 j _ p hje hp)) (by simp [AV.keys, AV.keysL]), g.sub, g.old, fun hon' i t hi => ?_, g.lone, g.marks⟩
 rw [St.get_put, if_neg (Nat.ne_of_lt hd)] at hi
 exact g.gh hon' i t hi
def StepOK (Γ : Ctx) (s : St) (o : Oper) (C : St → Prop) : Prop := ∀ a w, R Γ s a w → ∃ v w' s', (execOp a.eval o).run Γ.P w = .ok (.value v) w' ∧ R Γ s' (a.put o.dst v) w' ∧ C s'
variable {F : Fence} {n : Nat} {more : St → Oper → Kont → Prop}
theorem Wp.at (hm : MoreOK more Γ) (hF : FOK F) {id : Nat} {ops : Array Oper} {l1 l2 : List Oper} {o : Oper} (hsp : ops.toList = l1 ++ o :: l2) (hg : o.guard = none) (hnd : ∀ c, o.op ≠ .defer c) {K : Exit → St → Prop}
   (h : opsVC false more Γ.P Γ.pk Γ.y Γ.N Γ.fx ops.toList l1 s fun s1 => StepOK Γ s1 o fun s2 => opsVC false more Γ.P Γ.pk Γ.y Γ.N Γ.fx ops.toList l2 s2 (K .normal)) : Wp Γ F n (.region id ops false) s K := by
 intro a w hR
 refine wpIn_region_list ?_
 have hpre := ops_pre (n := n) (l2 := o :: l2) hm hF (Q := fun e a' w' => ∃ s', (K e s' ∨ EscS Γ e s') ∧ R Γ s' a' w') h hR ?_ fun e s' a' w' h1 h2 => ⟨s', .inr h1, h2⟩
 · rw [← hsp] at hpre
   simpa using hpre
 intro s1 a1 w1 h1 hR1
 obtain ⟨v, w', s2, r1, r2, r3⟩ := h1 a1 w1 hR1
 refine wpListIn_plain hg fun K' hK' => ?_
 refine wpIn_of_run hF hnd (v := v) (w' := w') r1 (hK' _ _ ?_)
 have := ops_sound (n := n) hm hF (Q := fun e a' w' => ∃ s', (K e s' ∨ EscS Γ e s') ∧ R Γ s' a' w') r3 r2 (fun s' a' w' h1 h2 => ⟨s', .inl h1, h2⟩) fun e s' a' w' h1 h2 => ⟨s', .inr h1, h2⟩
 simpa using this
theorem StepOK.range (hG : ICtx ks vs Γ) {o : Oper} {t kt et : TypeId} {x : Operand} {d : Nat} (ho : o.op = .range t x) (hdst : o.dst = some d) (hd : d < Γ.N) (hgh : s.get Γ.N = .gh 0 false) (hx : s.geto x = .pure (.mp ks vs)) (ht : Γ.P.underlying t = some (.map kt et)) {C : St → Prop}
   (h : ∀ r, C ((s.put Γ.N (.gh (pkL [r]) false)).put d (.pure (.val (.pointer (some ⟨r, 0, none⟩)))))) : StepOK Γ s o C := by
 intro a w hR
 obtain ⟨r, w', r1, r2⟩ := hR.mkIter hG hgh hx ht hd
 exact ⟨_, w', _, by rw [show execOp a.eval o = (do pure (.value (← Instr.range t (a.eval x)))) by simp only [execOp, ho], Sem.run_bind, r1, Result.andThen_ok]; rfl, by rw [hdst]; exact r2, h r⟩
theorem StepOK.next (hG : ICtx ks vs Γ) (kp : Nat → PV) (hkp : ∀ (j : Nat) (k : Value), ks[j]? = some k → ∀ (w : World) (A : Nat → Prop), PR w A (kp j) k) {o : Oper} {x : Operand} {d : Nat} {r : Nat} {js : List Nat} (ho : o.op = .next x false) (hdst : o.dst = some d) (hd : d < Γ.N)
   (hgh : s.get Γ.N = .gh (pkL (r :: js)) false) (hx : s.geto x = .pure (.val (.pointer (some ⟨r, 0, none⟩)))) {C : St → Prop}
   (h0 : (∀ j, j < ks.length → j ∈ js) → C (s.put d (.tup [.bool false])))
   (h1 : ∀ j p, j < ks.length → j ∉ js → vs[j]? = some p → C ((s.put Γ.N (.gh (pkL (r :: (js ++ [j]))) false)).put d (.tup [.bool true, .pure (kp j), .pure p]))) : StepOK Γ s o C := by
 intro a w hR
 rcases hR.nextIter hG kp hkp hgh hx (ty := o.type) hd with ⟨q1, q2, q3⟩ | ⟨j, p, v, w', q1, q2, q3, q4, q5⟩
 · exact ⟨_, w, _, by rw [show execOp a.eval o = (do pure (.value (← Instr.next (a.eval x) false o.type))) by simp only [execOp, ho], Sem.run_bind, q2, Result.andThen_ok]; rfl, by rw [hdst]; exact q3, h0 q1⟩
 · exact ⟨_, w', _, by rw [show execOp a.eval o = (do pure (.value (← Instr.next (a.eval x) false o.type))) by simp only [execOp, ho], Sem.run_bind, q4, Result.andThen_ok]; rfl, by rw [hdst]; exact q5, h1 j p q1 q2 q3⟩
theorem StepOK.entry (hG : ICtx ks vs Γ) (kp : Nat → PV) (hkp : ∀ (j : Nat) (k : Value), ks[j]? = some k → ∀ (w : World) (A : Nat → Prop), PR w A (kp j) k) {o : Oper} {x : Operand} {d : Nat} {r j : Nat} {js : List Nat} (ho : o.op = .entry x) (hdst : o.dst = some d) (hd : d < Γ.N)
   (hgh : s.get Γ.N = .gh (pkL (r :: (js ++ [j]))) false) (hx : s.geto x = .pure (.val (.pointer (some ⟨r, 0, none⟩)))) {p : PV} (hp : vs[j]? = some p) {C : St → Prop}
   (h : C (s.put d (.tup [.pure (kp j), .pure p]))) : StepOK Γ s o C := by
 intro a w hR
 obtain ⟨v, q1, q2⟩ := hR.entryIter hG kp hkp hgh hx hp hd
 exact ⟨v, w, _, by rw [show execOp a.eval o = (do pure (.value (← Instr.entry (a.eval x)))) by simp only [execOp, ho], Sem.run_bind, q1, Result.andThen_ok]; rfl, by rw [hdst]; exact q2, h⟩
end
theorem PSpec.of_wpI (ks : List Value) (vs : List PV) {P : Program} {f : FuncId} {fn : Func} {c : Code} {args : List PV} {res : PV} (hf : P.funcs[f]? = some fn) (hb : fn.body = some c)
   (hcall : ∀ (vs : Array Value) (w : World), (callFunc f vs).run P w = .ok (.enter f vs) w) (hl : args.length ≤ fn.ntmps)
   (h : ∀ Γ : Ctx, Γ.P = P → Γ.N = fn.ntmps → Γ.fx = [] → Γ.pk = none → ICtx ks vs Γ → Wp Γ Fence.wide 0 c (startGm args Γ.N) fun e s => endVC P fn res e s ∧ ∃ i t, s.get Γ.N = .gh i t) : PSpec P f args res := by
 refine ⟨hcall, fun w X vs' hgl hsz hv hX => ?_⟩
 refine (callsIn_wide (n := 0)).1 (callsIn_of_wp_marks hf hb trivial ?_)
 let Γ : Ctx := ⟨P, fn.ntmps, w, X, bmOf X, [], iY P ks vs w, (fun _ b hb => ex_bmOf hb), none, []⟩
 have hs := h Γ rfl rfl rfl rfl ⟨rfl, rfl, rfl, rfl, hX⟩
 have hR : R Γ (startGm args fn.ntmps) { tmps := vs' ++ Array.replicate (fn.ntmps - vs'.size) undef, defers := [] } w := by
   have hget : ∀ t, (startGm args fn.ntmps).get t = if t = fn.ntmps then .gh 0 false else (startSt args).get t := fun t => by
     simp only [startGm, startSt, St.get, lk_cons]
     by_cases e : fn.ntmps = t
     · rw [if_pos e, if_pos e.symm]; rfl
     · rw [if_neg e, if_neg (Ne.symm e)]
   refine ⟨X, fun _ => none, ?_, fun _ h => h, fun _ _ h => h, fun _ i t hi => ?_, fun _ => rfl, ⟨[], rfl, List.nodup_nil, fun d hd => by cases hd⟩⟩
   · refine
     { size := by show (vs' ++ Array.replicate (fn.ntmps - vs'.size) undef).size = fn.ntmps; rw [Array.size_append, Array.size_replicate]; omega
       slots := fun t => ?_
       blks := fun k => by simp [St.blk, startGm, lk, BO]
       inj := fun k k' bi bi' hk => by cases hk
       lt := fun k bi hk => by cases hk
       notX := fun k bi hk => by cases hk
       own := fun k bi hk => by cases hk
       fixd := fun k hk => by cases hk
       used1 := fun t k hk => by
         rw [hget] at hk
         split at hk
         · simp [AV.keys] at hk
         · rcases startSt_get args t with e | ⟨p, _, e⟩ <;> rw [e] at hk <;> simp [AV.keys] at hk
       used2 := fun k b hk => by simp [St.blk, startGm, lk] at hk
       keep := Kp.refl _ _
       Xlt := hX
       glob := hgl.mono ⟨Nat.le_refl _, fun b _ hb => ⟨rfl, by
         rintro (hx | ⟨k, bi, hk, _⟩)
         · exact hb hx
         · cases hk⟩⟩ }
     show AR w (Av X fun _ => none) _ _ _
     rw [hget, frame_getD]
     split
     · exact .gh _ _ _
     · rcases startSt_get args t with e | ⟨p, hp, e⟩
       · rw [e]; exact .junk _
       · rw [e]
         refine .pure _ _ ((hv t p hp).mono ⟨Nat.le_refl _, fun b _ hb => ⟨rfl, ?_⟩⟩)
         rintro (hx | ⟨k, bi, hk, _⟩)
         · exact hb hx
         · cases hk
   · have hi' : (startGm args fn.ntmps).get fn.ntmps = .gh i t := hi
     rw [hget, if_pos rfl] at hi'
     cases hi'
     refine ⟨Kp.refl _ _, ?_, fun r js e => by have := pk2_pos r (pkL js); simp only [pkL] at e; omega⟩
     rintro b ⟨k, bi, hk, _⟩
     cases hk
 refine wpIn_mono (hs _ w hR) ?_
 rintro e a' w' ⟨s', hK | ⟨_, _, hpk, _⟩, hr⟩
 case inr => cases hpk
 obtain ⟨hK, i, t, hit⟩ := hK
 have fin : retVC P fn s' res → LeavesInM Fence.wide 0 P fn a'.tmps (fun e w'' => ∃ v, e = .returned v ∧ PR w'' X res v ∧ Kp (fun _ => False) w w'') a'.defers .returning w' := fun hK =>
   hr.leave rfl rfl fun X' β w'' hr' hsub _ hg => by
     obtain ⟨j1, _, _⟩ : iJ ks vs w i t X' (Ex β) w'' := hg rfl i t hit
     obtain ⟨v, h1, h2⟩ := ret_sound (Γ := Γ.atX X') hr' hK
     exact ⟨v, h1, v, rfl, h2.mono ⟨Nat.le_refl _, fun b _ hb => ⟨rfl, fun hx => hb (hsub b hx)⟩⟩, j1⟩
 cases e with
 | normal => exact fin hK
 | ret => exact fin hK
 | exit id => exact hK.elim
 | goto l => exact hK.elim
 | panic c => exact hK.elim
 | outgrown => exact hK.elim
end Go.Avc
/- Code of which the reader shows some regions himself, by their numbers; a region cut in two; a row cut short. Conditions: none. -/
namespace Go.Avc
open Go.RowKit
noncomputable def vcCodeR (lv : Nat → Bool) (more : St → Oper → Kont → Prop) (Γ : Ctx) (F : Fence) (n : Nat) (c : Code) : St → (Exit → St → Prop) → Prop :=
 Code.rec (motive := fun _ => St → (Exit → St → Prop) → Prop)
   (fun s K => K .normal s)
   (fun id ops d s K => match d with
     | false => match lv id with
       | true => Wp Γ F n (.region id ops false) s K
       | false => opsVC false more Γ.P Γ.pk Γ.y Γ.N Γ.fx ops.toList ops.toList s (K .normal)
     | true => Wp Γ F n (.region id ops true) s K)
   (fun _ _ iha ihb s K => iha s (seqK ihb K))
   (fun c _ _ iha ihb s K => condC (s.geto c) (iha s K) (ihb s K))
   (fun id _ ih s K => ih s (blockK id K))
   (fun body _ s K => Wp Γ F n (.loop body) s K)
   (fun f ps asg body _ _ s K => Wp Γ F n (.rangeFunc f ps asg body) s K)
   (fun id s K => K (.exit id) s)
   (fun _ ih s K => ih s (scopeK K))
   (fun _ s K => K .normal s)
   (fun l s K => Wp Γ F n (.goto l) s K)
   (fun s K => K .ret s)
   (fun w s K => Wp Γ F n (.refuse w) s K) c
section
variable {more : St → Oper → Kont → Prop} {Γ : Ctx} {F : Fence} {n : Nat} {s : St} {a : Act} {w : World} {β : BM}
theorem code_soundR (lv : Nat → Bool) (hm : MoreOK more Γ) (hF : FOK F) (c : Code) : ∀ {s : St} {K : Exit → St → Prop}, vcCodeR lv more Γ F n c s K → Wp Γ F n c s K := by
 induction c with
 | skip => exact fun {s K} h a w hR => wpIn_skip ⟨s, .inl h, hR⟩
 | region id ops d =>
   intro s K h
   cases d with
   | false =>
     change (match lv id with
       | true => Wp Γ F n (.region id ops false) s K
       | false => opsVC false more Γ.P Γ.pk Γ.y Γ.N Γ.fx ops.toList ops.toList s (K .normal)) at h
     split at h
     · exact h
     intro a w hR
     refine wpIn_region_list ?_
     have := ops_sound (n := n) hm hF (Q := fun e a' w' => ∃ s', (K e s' ∨ EscS Γ e s') ∧ R Γ s' a' w') h hR (fun s' a' w' h1 h2 => ⟨s', .inl h1, h2⟩) fun e s' a' w' h1 h2 => ⟨s', .inr h1, h2⟩
     simpa using this
   | true => exact h
 | seq x y ihx ihy =>
   intro s K h a w hR
   refine wpIn_seq (wpIn_mono (ihx (K := seqK (vcCodeR lv more Γ F n y) K) h a w hR) ?_)
   rintro e a' w' ⟨s', h1 | hE, h2⟩
   case inr =>
     obtain ⟨v, D, hpk, rfl, hD⟩ := hE
     exact ⟨s', .inr ⟨v, D, hpk, rfl, hD⟩, h2⟩
   cases e with
   | normal => exact ihy h1 a' w' h2
   | exit id => exact ⟨s', .inl h1, h2⟩
   | goto l => exact ⟨s', .inl h1, h2⟩
   | ret => exact ⟨s', .inl h1, h2⟩
   | panic c => exact ⟨s', .inl h1, h2⟩
   | outgrown => exact ⟨s', .inl h1, h2⟩
 | cond c x y ihx ihy =>
   intro s K h
   change condC (s.geto c) (vcCodeR lv more Γ F n x s K) (vcCodeR lv more Γ F n y s K) at h
   unfold condC at h
   split at h
   case h_2 => exact h.elim
   rename_i t ht
   intro a w hR
   have hev : a.eval c = .bool t := by
     obtain ⟨X, β, hr, _⟩ := hR
     have := geto_AR hr c
     rw [ht] at this
     exact this.val_inv
   refine wpIn_cond hev ?_
   rcases bsel_elim h with ⟨rfl, h⟩ | ⟨rfl, h⟩
   · exact ihx h a w hR
   · exact ihy h a w hR
 | block id c ih =>
   intro s K h a w hR
   refine wpIn_block (wpIn_mono (ih (K := blockK id K) h a w hR) ?_)
   rintro e a' w' ⟨s', h1 | hE, h2⟩
   case inr =>
     obtain ⟨v, D, hpk, rfl, hD⟩ := hE
     exact ⟨s', .inr ⟨v, D, hpk, rfl, hD⟩, h2⟩
   cases e with
   | normal => exact ⟨s', .inl h1, h2⟩
   | exit id' =>
     simp only [blockK, beq_eq_decide] at h1
     by_cases e : id' = id
     · simp only [e, decide_true, cond_true] at h1
       simp only [Exit.inBlock, e, if_true]
       exact ⟨s', .inl h1, h2⟩
     · simp only [e, decide_false, cond_false] at h1
       simp only [Exit.inBlock, e, if_false]
       exact ⟨s', .inl h1, h2⟩
   | goto l => exact ⟨s', .inl h1, h2⟩
   | ret => exact ⟨s', .inl h1, h2⟩
   | panic c => exact ⟨s', .inl h1, h2⟩
   | outgrown => exact ⟨s', .inl h1, h2⟩
 | exit id => exact fun {s K} h a w hR => wpIn_exit ⟨s, .inl h, hR⟩
 | ret => exact fun {s K} h a w hR => wpIn_ret ⟨s, .inl h, hR⟩
 | label l => exact fun {s K} h a w hR => wpIn_label ⟨s, .inl h, hR⟩
 | loop _ _ => exact fun {s K} h => h
 | rangeFunc _ _ _ _ _ _ => exact fun {s K} h => h
 | scope body ih =>
   intro s K h a w hR
   refine wpIn_scope (wpIn_mono (ih (K := scopeK K) h a w hR) ?_)
   rintro e a' w' ⟨s', h1 | hE, h2⟩
   case inr =>
     obtain ⟨v, D, hpk, rfl, hD⟩ := hE
     exact ⟨s', .inr ⟨v, D, hpk, rfl, hD⟩, h2⟩
   cases e with
   | normal => exact ⟨s', .inl h1, h2⟩
   | exit id => exact ⟨s', .inl h1, h2⟩
   | goto l => exact h1.elim
   | ret => exact ⟨s', .inl h1, h2⟩
   | panic c => exact ⟨s', .inl h1, h2⟩
   | outgrown => exact ⟨s', .inl h1, h2⟩
 | goto _ => exact fun {s K} h => h
 | refuse _ => exact fun {s K} h => h
end
section
variable {Γ : Ctx} {F : Fence} {n : Nat} {s : St} {more : St → Oper → Kont → Prop}
theorem Wp.mid (l1 : List Oper) {l2 : List Oper} (hm : MoreOK more Γ) (hF : FOK F) {id : Nat} {ops : Array Oper} (hsp : ops.toList = l1 ++ l2) {K : Exit → St → Prop}
   (h : opsVC false more Γ.P Γ.pk Γ.y Γ.N Γ.fx ops.toList l1 s fun s1 => ∃ s2, Le Γ s1 s2 ∧ opsVC false more Γ.P Γ.pk Γ.y Γ.N Γ.fx ops.toList l2 s2 (K .normal)) : Wp Γ F n (.region id ops false) s K := by
 intro a w hR
 refine wpIn_region_list ?_
 have hpre := ops_pre (n := n) (l2 := l2) hm hF (Q := fun e a' w' => ∃ s', (K e s' ∨ EscS Γ e s') ∧ R Γ s' a' w') h hR ?_ fun e s' a' w' h1 h2 => ⟨s', .inr h1, h2⟩
 · rw [← hsp] at hpre
   simpa using hpre
 rintro s1 a1 w1 ⟨s2, h1, h2⟩ hR1
 have := ops_sound (n := n) hm hF (Q := fun e a' w' => ∃ s', (K e s' ∨ EscS Γ e s') ∧ R Γ s' a' w') h2 (h1 a1 w1 hR1) (fun s' a' w' h1 h2 => ⟨s', .inl h1, h2⟩) fun e s' a' w' h1 h2 => ⟨s', .inr h1, h2⟩
 simpa using this
end
end Go.Avc
/- A map of one's own is given up to be read only. Conditions: none. -/
namespace Go.Avc
open Go.RowKit
theorem set_same {α : Type} (a : Array α) (t : Nat) (d : α) : a.setIfInBounds t (a.getD t d) = a := by
 refine Array.ext (by simp) fun i h1 h2 => ?_
 rw [Array.getElem_setIfInBounds]
 split
 · rename_i e
   subst e
   simp [Array.getD, h2]
 · rfl
theorem Le.frzMp {Γ : Ctx} {s : St} {t k : Nat} {es : List (Value × PV)} (ht : s.get t = .mp k) (hb : s.blk k = some (.mp es)) (hd : t < Γ.N) (hfx : freshIn k Γ.fx = true) : Le Γ s ((s.kill k).put t (.pure (.mp (es.map (·.1)) (es.map (·.2))))) := by
 rintro a w ⟨X, β, h, g⟩
 obtain ⟨bi, hβ, hbk⟩ := h.live hb
 obtain ⟨h1, ms, cl, h2, ⟨h3, h3s⟩, h4⟩ := hbk
 have hsl := h.slots t
 rw [ht] at hsl
 obtain ⟨u, hu⟩ : ∃ u, u = a.tmps.getD t undef := ⟨_, rfl⟩
 rw [← hu] at hsl
 have hk := h.killK (freshIn_spec hfx)
 have e2 : ∀ j bj, (fun j => if j = k then none else β j) j = some bj → j ≠ k ∧ β j = some bj := fun j bj hj => by
   by_cases e : j = k
   · simp [e] at hj
   · exact ⟨e, by simpa [e] using hj⟩
 have hno : ¬ Av (Γ.atX X).X (fun j => if j = k then none else β j) bi.b := by
   rintro (hx | ⟨j, bj, hj, hv, e⟩)
   · exact h.notX k bi hβ h1 hx
   · obtain ⟨n1, n2⟩ := e2 j bj hj
     exact n1 (h.inj j k bj bi n2 hβ hv h1 e)
 have had : Ad w (Av (Γ.atX X).X β) w (Av (Γ.atX X).X (fun j => if j = k then none else β j)) := ⟨Nat.le_refl _, fun b _ hA => ⟨rfl, fun hA' => hA (by
   rcases hA' with hx | ⟨j, bj, hj, hv, e⟩
   · exact .inl hx
   · exact .inr ⟨j, bj, (e2 j bj hj).2, hv, e⟩)⟩⟩
 have hpr : PR w (Av (Γ.atX X).X (fun j => if j = k then none else β j)) (.mp (es.map (·.1)) (es.map (·.2))) (.map (some bi.b)) := by
   refine .mp _ _ bi.b ms cl (fun i => (ms.getD i default).val) ⟨h.lt k bi hβ h1, hno⟩ h2 ⟨by simp [h3], by simp [h3], h3s⟩ (fun i e he => ?_) fun i p hp => ?_
   · have hi : i < es.length := by have := (Array.getElem?_eq_some_iff.1 he).1; omega
     obtain ⟨g1, _⟩ := h4 i e es[i] he (List.getElem?_eq_getElem hi)
     refine ⟨?_, by rw [Array.getD_eq_getD_getElem?, he]; rfl⟩
     rw [List.getElem?_map, List.getElem?_eq_getElem hi, Option.map_some, g1]
   · rw [List.getElem?_map, Option.map_eq_some_iff] at hp
     obtain ⟨q, hq, rfl⟩ := hp
     have hi : i < ms.size := by have := (List.getElem?_eq_some_iff.1 hq).1; omega
     have he : ms[i]? = some ms[i] := Array.getElem?_eq_getElem hi
     have := (h4 i _ q he hq).2.mono had
     rw [Array.getD_eq_getD_getElem?, he]
     exact this
 have hval : u = .map (some bi.b) := by
   cases hsl with
   | mp _ bi' hb' => rw [hβ] at hb'; cases hb'; rfl
   | mpDead _ _ hb' => rw [hβ] at hb'; cases hb'
 have hput := hk.put (d := t) (v := .pure (.mp (es.map (·.1)) (es.map (·.2)))) (u := a.tmps.getD t undef) hd (.pure _ _ (by rw [← hu, hval]; exact hpr)) (by simp [AV.keys])
 rw [set_same] at hput
 refine ⟨X, _, hput, g.sub, g.old, fun hon i t' hi => Γ.y.stable i t' X _ _ w w (g.gh hon i t' ?_) (Kp.refl _ _) ?_, g.lone, g.marks⟩
 · rw [St.get_put, if_neg (Nat.ne_of_lt hd)] at hi
   exact hi
 · rintro b ⟨j, bj, hj, hv, rfl⟩
   obtain ⟨_, n2⟩ := e2 j bj hj
   exact ⟨.inl ⟨j, bj, n2, hv, rfl⟩, h.lt j bj n2 hv⟩
end Go.Avc
