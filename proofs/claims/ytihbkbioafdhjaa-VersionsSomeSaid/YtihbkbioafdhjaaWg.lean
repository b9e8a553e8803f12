/- Regions whose order of evaluation is open: what is read may be read first, where what comes between leaves it as it was. Conditions: none. -/
import Derived.Test.YtihbkbioafdhjaaWd
import Derived.Test.YtihbkbioafdhjaaWf
import Derived.Shelf.SlSortCmp.WholeK
import Derived.Shelf.SlGeneric
import Derived.Ground.SlsfProg
import Derived.Test.YtihbkbioafdhjaaChecked
import Derived.Test.YtihbkbioafdhjaaWe
set_option linter.unusedSimpArgs false
set_option linter.unusedVariables false
set_option maxRecDepth 20000
set_option maxHeartbeats 4000000
namespace Go.Avc
open Go.RowKit
section
variable {F : Fence} {n : Nat} {P : Program} {ops : Array Oper} {Q : Exit → Act → World → Prop} {md : Region.Mode} {S : Nat → World → Prop}
def HeldY (P : Program) (ops : Array Oper) (C : World → Prop) (o : Oper) (v : Value) (a : Act) : Prop :=
 Region.wanted o (yielded ops a.tmps) = true ∧ (∀ w, C w → (execOp a.eval o).run P w = .ok (.value v) w) ∧ ∀ w, o.about P w a.eval = none
variable {C : World → Prop}
theorem HeldY.wpOpIn {i : Nat} {o : Oper} {v : Value} {a : Act} (hro : F.round = none) (hi : ops[i]? = some o) (hy : HeldY P ops C o v a)
   {K : Act → World → Prop} {w : World} (hC : C w) (h : K (a.put o.dst v) w) : wpOpIn F n P ops Q i K a w := by
 unfold Go.wpOpIn
 simp only [hi]
 have hab : ∀ f, o.about P w a.eval = some f → F.fn f := fun f hf => by rw [hy.2.2 w] at hf; cases hf
 simp only [hy.1, if_true, Oper.wpIn, hro, Oper.semAt_none, hy.2.1 w hC, Oper.uponIn]
 exact ⟨hab, h⟩
theorem HeldY.of_same {o : Oper} {v : Value} {a a' : Act} (hy : HeldY P ops C o v a) (he : execOp a'.eval o = execOp a.eval o)
   (hw : Region.wanted o (yielded ops a'.tmps) = Region.wanted o (yielded ops a.tmps)) (hb : ∀ w, o.about P w a'.eval = o.about P w a.eval) : HeldY P ops C o v a' :=
 ⟨by rw [hw]; exact hy.1, fun w h => by rw [he]; exact hy.2.1 w h, fun w => by rw [hb w]; exact hy.2.2 w⟩
theorem wpOpIn_putHeld {j : Nat} {oi oj : Oper} {v : Value} (hro : F.round = none) (hj : ops[j]? = some oj) (hap : oi.apart ops oj = true)
   (hsi : ∀ cs b, oi.op ≠ .select cs b) (hsj : ∀ cs b, oj.op ≠ .select cs b)
   (hQ : ∀ c a w, Q (.panic c) (a.put oi.dst v) w → Q (.panic c) a w) {K : Act → World → Prop} {a : Act} {w : World}
   (hy : HeldY P ops C oi v a) (h : wpOpIn F n P ops Q j K (a.put oi.dst v) w) :
   wpOpIn F n P ops Q j (fun a' w' => HeldY P ops C oi v a' ∧ K (a'.put oi.dst v) w') a w := by
 obtain ⟨h1, h2, h3⟩ := Oper.apart_spec hap
 have keep : ∀ (a : Act), HeldY P ops C oi v a → ∀ u, HeldY P ops C oi v (a.put oj.dst u) := fun a hy u =>
   hy.of_same (execOp_put oi hsi a oj.dst u h3) (wanted_put oi a oj.dst u h3) (fun w => about_put oi w a oj.dst u h3)
 have keepD : ∀ d, HeldY P ops C oi v { a with defers := d :: a.defers } := fun d => hy.of_same rfl rfl (fun _ => rfl)
 unfold wpOpIn at *
 simp only [hj] at *
 rw [wanted_put oj a oi.dst v h1, about_put oj w a oi.dst v h1] at h
 split
 · rename_i hw
   simp only [hw, if_true] at h
   unfold Oper.wpIn at *
   rw [about_put oj w a oi.dst v h1] at h
   refine ⟨h.1, ?_⟩
   have h := h.2
   rw [hro, Oper.semAt_none, execOp_put oj hsj a oi.dst v h1] at h
   rw [hro, Oper.semAt_none]
   generalize (execOp a.eval oj).run P w = r at *
   cases r with
   | ok x w' =>
     cases x <;> simp only [Oper.uponIn] at h ⊢
     case value u => exact ⟨keep a hy u, by rw [← Act.put_comm a v u h2]; exact h⟩
     case skip => exact ⟨keep a hy _, by rw [← Act.put_comm a v undef h2]; exact h⟩
     case defer d =>
       refine ⟨keep _ (keepD d) _, ?_⟩
       rw [← Act.put_comm _ v undef h2, ← Act.put_defers]
       exact h
     case enter f args =>
       refine ⟨h.1, CallsIn.mono h.2 fun e w'' he => ?_⟩
       cases e with
       | returned u => exact ⟨keep a hy u, by rw [← Act.put_comm a v u h2]; exact he⟩
       | panicked c => exact hQ _ _ _ he
       | outgrown => exact he
     case row row args => exact ⟨h.1, RowsIn.mono h.2 fun u w'' he => ⟨keep a hy u, by rw [← Act.put_comm a v u h2]; exact he⟩⟩
     case round l f tmps assign body =>
       refine ⟨h.1, RoundIn.mono h.2 fun e w'' he => ?_⟩
       cases e with
       | returned u => exact ⟨keep a hy u, by rw [← Act.put_comm a v u h2]; exact he⟩
       | panicked c => exact hQ _ _ _ he
       | outgrown => exact he
   | halt x w' =>
     cases x <;> simp only [Oper.uponIn] at h ⊢
     case panic u => exact hQ _ _ _ h
 · rename_i hw
   simp only [hw] at h
   exact ⟨h.1, keep a hy _, by rw [← Act.put_comm a v undef h2]; exact h.2⟩
def wpAnyHeld (F : Fence) (n : Nat) (P : Program) (md : Region.Mode) (ops : Array Oper) (Q : Exit → Act → World → Prop) (S : Nat → World → Prop) : Nat → Array Bool → Act → World → Prop
 | 0, listed, a, w => Region.ready md ops listed = [] ∧ Q .normal a w
 | fuel + 1, listed, a, w =>
   (Region.ready md ops listed = [] → Q .normal a w) ∧
   ∀ i ∈ Region.ready md ops listed, wpOpIn F n P ops Q i (fun a' w' => S i w' ∧ wpAnyHeld F n P md ops Q S fuel (listed.setIfInBounds i true) a' w') a w
theorem wpAnyIn_of_held : ∀ (fuel : Nat) (listed : Array Bool) (a : Act) (w : World), wpAnyHeld F n P md ops Q S fuel listed a w → wpAnyIn F n P md ops Q fuel listed a w
 | 0, _, _, _, h => h
 | fuel + 1, _, _, _, h => ⟨h.1, fun i hi => wpOpIn_mono (fun a' w' h' => wpAnyIn_of_held fuel _ a' w' h'.2) (h.2 i hi)⟩
theorem wpAnyHeld_first {i : Nat} {oi : Oper} {v : Value} (hro : F.round = none) (hi : ops[i]? = some oi) (hsel : ∀ (j : Nat) (o : Oper) cs b, ops[j]? = some o → o.op ≠ .select cs b)
   (hQ : ∀ c a w, Q (.panic c) (a.put oi.dst v) w → Q (.panic c) a w) (hS : ∀ w, C w → S i w) :
   ∀ (fuel : Nat) (listed : Array Bool) (a : Act) (w : World),
     (∀ j oj, ops[j]? = some oj → j ≠ i → listed.getD j true = false → (∀ e ∈ oj.after, Region.binds md e = true → e.on ≠ i) → oi.apart ops oj = true ∧ ∀ w, S j w → C w) →
     i ∈ Region.ready md ops listed → HeldY P ops C oi v a → C w →
     wpAnyHeld F n P md ops Q S fuel (listed.setIfInBounds i true) (a.put oi.dst v) w → wpAnyHeld F n P md ops Q S (fuel + 1) listed a w := by
 intro fuel
 induction fuel with
 | zero =>
   intro listed a w _ hr hy hC H
   refine ⟨fun h => (by rw [h] at hr; cases hr), fun j hj => ?_⟩
   by_cases hji : j = i
   · subst hji; exact hy.wpOpIn hro hi hC ⟨hS w hC, H⟩
   · have := ready_mono hj hji
     rw [H.1] at this
     cases this
 | succ fuel ih =>
   intro listed a w hfree hr hy hC H
   refine ⟨fun h => (by rw [h] at hr; cases hr), fun j hj => ?_⟩
   by_cases hji : j = i
   · subst hji; exact hy.wpOpIn hro hi hC ⟨hS w hC, H⟩
   · have h1 := H.2 j (ready_mono hj hji)
     obtain ⟨hjun, oj, hoj, hall⟩ := Go.mem_ready.1 hj
     have hnot : ∀ e ∈ oj.after, Region.binds md e = true → e.on ≠ i := fun e he hb heq => by
       have h1 := hall e he hb
       have h0 := (Go.mem_ready.1 hr).1
       rw [heq] at h1
       rcases Nat.lt_or_ge i listed.size with h' | h'
       · simp [h'] at h0 h1; rw [h0] at h1; cases h1
       · simp [Array.getElem?_eq_none h'] at h1
     obtain ⟨f1, f2⟩ := hfree j oj hoj hji hjun hnot
     have h2 := wpOpIn_putHeld hro hoj f1 (fun cs b => hsel i oi cs b hi) (fun cs b => hsel j oj cs b hoj) hQ hy h1
     have hfree' : ∀ k ok, ops[k]? = some ok → k ≠ i → (listed.setIfInBounds j true).getD k true = false →
         (∀ e ∈ ok.after, Region.binds md e = true → e.on ≠ i) → oi.apart ops ok = true ∧ ∀ w, S k w → C w := fun k ok hk hki hun hno => by
       refine hfree k ok hk hki ?_ hno
       by_cases hjk : j = k
       · subst hjk; exact hjun
       · rw [getD_set_ne true hjk] at hun; exact hun
     refine wpOpIn_mono (fun a' w' h3 => ⟨h3.2.1, ih (listed.setIfInBounds j true) a' w' hfree' (ready_mono hr (Ne.symm hji)) h3.1 (f2 _ h3.2.1) ?_⟩) h2
     rw [Array.setIfInBounds_comm _ _ hji]
     exact h3.2.2
def befores (md : Region.Mode) (ops : Array Oper) (listed : Array Bool) (i : Nat) : List Nat :=
 (List.range ops.size).filter fun j => !(j == i || listed.getD j true || match ops[j]? with | some oj => oj.after.any (fun e => Region.binds md e && e.on == i) | none => true)
theorem wpAnyHeld_take {i : Nat} {oi : Oper} {v : Value} {fuel : Nat} {listed : Array Bool} {a : Act} {w : World} (hro : F.round = none) (hi : ops[i]? = some oi)
   (hs : Region.noSelect ops = true) (hf : Region.free md ops listed i = true) (hr : (Region.ready md ops listed).contains i = true)
   (hQ : ∀ c a w, Q (.panic c) (a.put oi.dst v) w → Q (.panic c) a w) (hS : ∀ w, C w → S i w) {bs : List Nat} (hb : befores md ops listed i = bs) (hbs : ∀ j ∈ bs, ∀ w, S j w → C w) (hC : C w) (hy : HeldY P ops C oi v a)
   (h : wpAnyHeld F n P md ops Q S fuel (listed.setIfInBounds i true) (a.put oi.dst v) w) : wpAnyHeld F n P md ops Q S (fuel + 1) listed a w := by
 refine wpAnyHeld_first hro hi (Region.noSelect_spec hs) hQ hS fuel listed a w (fun j oj hj hne hun hno => ⟨Region.free_spec hi hf j oj hj hne hun hno, hbs j ?_⟩) (by simpa using hr) hy hC h
 subst hb
 have hjs : j < ops.size := (Array.getElem?_eq_some_iff.1 hj).1
 unfold befores
 rw [List.mem_filter]
 refine ⟨List.mem_range.2 hjs, ?_⟩
 simp only [hj, hun]
 have h1 : (j == i) = false := by simpa using hne
 have h2 : (oj.after.any fun e => Region.binds md e && e.on == i) = false := by
   cases h3 : oj.after.any fun e => Region.binds md e && e.on == i with
   | false => rfl
   | true =>
     obtain ⟨e, he, h4⟩ := Array.any_eq_true'.1 h3
     simp only [Bool.and_eq_true, beq_iff_eq] at h4
     exact absurd h4.2 (hno e he h4.1)
 rw [h1, h2]; rfl
theorem wpAnyHeld_one {i : Nat} {oi : Oper} {fuel : Nat} {listed : Array Bool} {a : Act} {w : World} (hi : ops[i]? = some oi) (hg : oi.guard = none) (hr : Region.ready md ops listed = [i])
   (h : ∀ K : Act → World → Prop, (∀ a' w', S i w' → wpAnyHeld F n P md ops Q S fuel (listed.setIfInBounds i true) a' w' → K a' w') → oi.wpIn F n P a w K Q) : wpAnyHeld F n P md ops Q S (fuel + 1) listed a w := by
 refine ⟨fun h0 => (by rw [hr] at h0; cases h0), fun j hj => ?_⟩
 rw [hr, List.mem_singleton] at hj
 subst hj
 unfold wpOpIn
 simp only [hi, Region.wanted, hg, if_true]
 exact h _ fun a' w' h1 h2 => ⟨h1, h2⟩
theorem wpAnyHeld_done {listed : Array Bool} {a : Act} {w : World} (hr : Region.ready md ops listed = []) (h : Q .normal a w) : ∀ fuel, wpAnyHeld F n P md ops Q S fuel listed a w
 | 0 => ⟨hr, h⟩
 | _ + 1 => ⟨fun _ => h, by rw [hr]; simp⟩
theorem wpIn_region_held {id : Nat} {a : Act} {w : World} (hm : P.follows .mixedOrders = true)
   (h : wpAnyHeld F n P .any ops Q S ops.size (Array.replicate ops.size false) a { w with drawn := w.drawn + 1 }) : (Code.region id ops true).wpIn F n P Q a w :=
 wpIn_region_any hm (wpAnyIn_of_held _ _ _ _ h)
end
end Go.Avc
/- Maps whose values are slices that grow: looked up and written back by a whole entry. Conditions: none. -/
namespace Go.Avc
open Go.RowKit
section
variable {α : Type} [DecidableEq α] {C : MKey α} {sz mb : Nat} {old : Nat → Prop} {l : List (α × List PV)} {X E : Nat → Prop} {w : World}
variable {P : Program} {t kt et : TypeId}
theorem GMap.look (G : GMap C sz mb old l none X E w) (ht : P.underlying t = some (.map kt et)) (hok : C.ok P kt = true) {j : Nat} (hj : j < (gks l).length) {k : α} (hkj : (gks l)[j] = k) (r : List PV) :
   ∃ b cap, (∀ w' : World, w'.heap[mb]? = w.heap[mb]? → (Instr.lookup t (.map (some mb)) (C.val k) false).run P w' = .ok (.slice (some ⟨b, 0, none⟩) (grw l k).length cap) w') ∧ GArr sz mb old b cap (grw l k) X E w ∧
     GMap C sz mb old (l ++ [(k, r)]) (some k) (fun x => X x ∧ x ≠ b) (fun x => E x ∨ x = b) w := by
 obtain ⟨es, bb, cc, vv, h1, h2, h3, h4⟩ := G.ex
 obtain ⟨g1, g2⟩ := h4 j hj
 obtain ⟨g2, g3⟩ := g2 (by simp)
 have hfind : ∀ w' : World, (Instr.findKey kt (C.val (gks l)[j]) es.toList).run P w' = .ok (findL (gks l)[j] (gks l) es.toList 0) w' := fun w' => C.find hok w' (gks l) es.toList (gks l)[j] (keys_of h2 fun i hi => (h4 i hi).1)
 rw [findL_at (gks_nodup l) (by simp [h2]) hj (e := { key := C.val (gks l)[j], val := vv j, born := j }) (by simpa using g1)] at hfind
 rw [hkj] at g1 g2 g3 hfind
 have hks : gks (l ++ [(k, r)]) = gks l := by rw [gks_snoc, if_pos (by rw [← hkj]; exact List.getElem_mem hj)]
 refine ⟨bb j, cc j, fun w' hw' => ?_, g3, ⟨G.mx, Ne.symm g3.ne⟩, fun h => h.elim G.me fun h => g3.ne h.symm, G.mo, G.mlt, es, bb, cc, vv, ?_, ?_, ?_, ?_⟩
 · simp [Instr.lookup, run_underlying ht, MapKept.run_getObj_map (hw'.trans h1), C.chk hok, hfind w', g2]
 · rw [hks]; exact h1
 · rw [hks]; exact h2
 · simp only [hks]
   exact fun i j' hi hj' _ _ => h3 i j' hi hj' (by simp) (by simp)
 · simp only [hks]
   intro i hi
   refine ⟨(h4 i hi).1, fun hh => ?_⟩
   obtain ⟨v1, v2⟩ := (h4 i hi).2 (by simp)
   have hne : k ≠ (gks l)[i] := fun e => hh (congrArg some e)
   have hbb : bb i ≠ bb j := fun e => hne (by have := h3 i j hi hj (by simp) (by simp) e; subst this; exact hkj.symm)
   rw [grw_snoc, if_neg hne]
   exact ⟨v1, v2.stable (Kp.refl (fun _ => False) _) (fun h => h) ⟨v2.x, hbb⟩ fun h => h.elim v2.e hbb⟩
theorem GMap.lookNone (G : GMap C sz mb old l none X E w) (ht : P.underlying t = some (.map kt et)) (hz : ∀ u : World, (zeroValue et).run P u = .ok (.slice none 0 0) u) (hok : C.ok P kt = true) {k : α} (hk : k ∉ gks l) {w' : World} (hw' : w'.heap[mb]? = w.heap[mb]?) :
   (Instr.lookup t (.map (some mb)) (C.val k) false).run P w' = .ok (.slice none 0 0) w' := by
 obtain ⟨es, bb, cc, vv, h1, h2, h3, h4⟩ := G.ex
 have hfind := C.find hok w' (gks l) es.toList k (keys_of h2 fun i hi => (h4 i hi).1)
 have hno : findL k (gks l) es.toList 0 = none := by
   rcases findL_cases k (gks l) es.toList 0 (by simp [h2]) with ⟨h5, _⟩ | ⟨n, e', _, _, h5, _⟩
   · exact h5
   · exact absurd (List.mem_of_getElem? h5) hk
 rw [hno] at hfind
 simp [Instr.lookup, run_underlying ht, MapKept.run_getObj_map (hw'.trans h1), C.chk hok, hfind, hz]
theorem GMap.upd {k : α} (G : GMap C sz mb old l (some k) X E w) (ht : P.underlying t = some (.map kt et)) (hok : C.ok P kt = true) (hmem : k ∈ gks l) {b cap : Nat} {E' : Nat → Prop} (hxb : ¬ X b) (hA : GArr sz mb old b cap (grw l k) (fun x => X x ∨ x = b) E' w) (hE : ∀ x, E' x → E x ∧ x ≠ b) :
   ∃ w', (Instr.mapUpdate t (.map (some mb)) (C.val k) (.slice (some ⟨b, 0, none⟩) (grw l k).length cap)).run P w = .ok () w' ∧ Kp (fun x => x = mb) w w' ∧ GMap C sz mb old l none (fun x => X x ∨ x = b) E' w' := by
 obtain ⟨j, hj, hkj⟩ := List.getElem_of_mem hmem
 obtain ⟨es, bb, cc, vv, h1, h2, h3, h4⟩ := G.ex
 have g1 := (h4 j hj).1
 have hfind := C.find hok w (gks l) es.toList (gks l)[j] (keys_of h2 fun i hi => (h4 i hi).1)
 rw [findL_at (gks_nodup l) (by simp [h2]) hj (e := { key := C.val (gks l)[j], val := vv j, born := j }) (by simpa using g1)] at hfind
 rw [hkj] at g1 hfind
 obtain ⟨k1, k2⟩ := kp_set (o' := .map (es.modify j fun e => { e with key := C.val k, val := .slice (some ⟨b, 0, none⟩) (grw l k).length cap }) (gks l).length) h1
 have hin : ∀ i (hi : i < (gks l).length), i ≠ j → some k ≠ some (gks l)[i] := fun i hi hne e => hne ((List.getElem_inj (gks_nodup l)).1 (by rw [hkj]; exact (Option.some.inj e).symm))
 refine ⟨_, ?_, k1, .inl G.mx, fun h => G.me (hE _ h).1, G.mo, Nat.lt_of_lt_of_le G.mlt k1.size, _, fun i => if i = j then b else bb i, fun i => if i = j then cap else cc i, fun i => if i = j then .slice (some ⟨b, 0, none⟩) (grw l k).length cap else vv i, k2, by simp [h2], ?_, ?_⟩
 · simp [Instr.mapUpdate, run_underlying ht, MapKept.run_getObj_map h1, C.chk hok, hfind, g1, C.stays, MapKept.run_setObj_map _ h1]
 · intro i i' hi hi' _ _ hbb
   simp only at hbb
   have hx : ∀ m (hm : m < (gks l).length), m ≠ j → X (bb m) := fun m hm hne => ((h4 m hm).2 (hin m hm hne)).2.x
   by_cases e : i = j <;> by_cases e' : i' = j
   · rw [e, e']
   · rw [if_pos e, if_neg e'] at hbb
     exact absurd (hbb ▸ hx i' hi' e') hxb
   · rw [if_neg e, if_pos e'] at hbb
     exact absurd (hbb ▸ hx i hi e) hxb
   · rw [if_neg e, if_neg e'] at hbb
     exact h3 i i' hi hi' (hin i hi e) (hin i' hi' e') hbb
 · intro i hi
   rw [Array.getElem?_modify]
   by_cases e : i = j
   · subst e
     simp only [if_true, (h4 i hi).1, Option.map_some, hkj]
     exact ⟨trivial, fun _ => ⟨trivial, hA.stable k1 hA.ne hA.x hA.e⟩⟩
   · simp only [if_neg e, if_neg (Ne.symm e)]
     refine ⟨(h4 i hi).1, fun _ => ?_⟩
     obtain ⟨v1, v2⟩ := (h4 i hi).2 (hin i hi e)
     exact ⟨v1, v2.stable k1 v2.ne (.inl v2.x) fun h => v2.e (hE _ h).1⟩
theorem GMap.add (G : GMap C sz mb old l none X E w) (ht : P.underlying t = some (.map kt et)) (hok : C.ok P kt = true) {k : α} (hk : k ∉ gks l) {r : List PV} {b cap : Nat} {E' : Nat → Prop} (hxb : ¬ X b) (hA : GArr sz mb old b cap [r] (fun x => X x ∨ x = b) E' w) (hE : ∀ x, E' x → E x ∧ x ≠ b) :
   ∃ w', (Instr.mapUpdate t (.map (some mb)) (C.val k) (.slice (some ⟨b, 0, none⟩) 1 cap)).run P w = .ok () w' ∧ Kp (fun x => x = mb) w w' ∧ GMap C sz mb old (l ++ [(k, r)]) none (fun x => X x ∨ x = b) E' w' := by
 obtain ⟨es, bb, cc, vv, h1, h2, h3, h4⟩ := G.ex
 have hfind := C.find hok w (gks l) es.toList k (keys_of h2 fun i hi => (h4 i hi).1)
 have hno : findL k (gks l) es.toList 0 = none := by
   rcases findL_cases k (gks l) es.toList 0 (by simp [h2]) with ⟨h5, _⟩ | ⟨n, e', _, _, h5, _⟩
   · exact h5
   · exact absurd (List.mem_of_getElem? h5) hk
 rw [hno] at hfind
 obtain ⟨k1, k2⟩ := kp_set (o' := .map (es.push { key := C.val k, val := .slice (some ⟨b, 0, none⟩) 1 cap, born := (gks l).length }) ((gks l).length + 1)) h1
 have hks : gks (l ++ [(k, r)]) = gks l ++ [k] := by rw [gks_snoc, if_neg hk]
 have hlen : (gks l ++ [k]).length = (gks l).length + 1 := by simp
 have hat : ∀ i (hi : i < (gks l).length), (gks l ++ [k])[i]'(by rw [hlen]; omega) = (gks l)[i] := fun i hi => List.getElem_append_left hi
 have hne0 : ∀ i (hi : i < (gks l).length), k ≠ (gks l)[i] := fun i hi e => hk (e ▸ List.getElem_mem _)
 have hx : ∀ m (hm : m < (gks l).length), X (bb m) := fun m hm => ((h4 m hm).2 (by simp)).2.x
 refine ⟨_, ?_, k1, .inl G.mx, fun h => G.me (hE _ h).1, G.mo, Nat.lt_of_lt_of_le G.mlt k1.size, es.push { key := C.val k, val := .slice (some ⟨b, 0, none⟩) 1 cap, born := (gks l).length },
   fun i => if i = (gks l).length then b else bb i, fun i => if i = (gks l).length then cap else cc i, fun i => if i = (gks l).length then .slice (some ⟨b, 0, none⟩) 1 cap else vv i, ?_, ?_, ?_, ?_⟩
 · simp [Instr.mapUpdate, run_underlying ht, MapKept.run_getObj_map h1, C.chk hok, hfind, MapKept.run_setObj_map _ h1]
 · rw [hks, hlen]; exact k2
 · rw [hks, hlen]; simp [h2]
 · simp only [hks]
   intro i i' hi hi' _ _ hbb
   rw [hlen] at hi hi'
   by_cases e : i = (gks l).length <;> by_cases e' : i' = (gks l).length
   · rw [e, e']
   · rw [if_pos e, if_neg e'] at hbb
     exact absurd (hbb ▸ hx i' (by omega)) hxb
   · rw [if_neg e, if_pos e'] at hbb
     exact absurd (hbb ▸ hx i (by omega)) hxb
   · rw [if_neg e, if_neg e'] at hbb
     exact h3 i i' (by omega) (by omega) (by simp) (by simp) hbb
 · simp only [hks]
   intro i hi
   rw [hlen] at hi
   by_cases e : i = (gks l).length
   · subst e
     have e1 : ∀ x : MapEntry, (es.push x)[(gks l).length]? = some x := fun x => by rw [Array.getElem?_push, if_pos h2.symm]
     have e2 : grw (l ++ [(k, r)]) k = [r] := by rw [grw_snoc, if_pos rfl, grw_none hk]; rfl
     have e3 : (gks l ++ [k])[(gks l).length]'(by rw [hlen]; omega) = k := by simp
     rw [e1]
     simp only [if_true, e3, e2]
     exact ⟨trivial, fun _ => ⟨rfl, hA.stable k1 hA.ne hA.x hA.e⟩⟩
   · have hi' : i < (gks l).length := by omega
     rw [Array.getElem?_push, if_neg (by omega)]
     simp only [if_neg e, hat i hi']
     refine ⟨(h4 i hi').1, fun _ => ?_⟩
     obtain ⟨v1, v2⟩ := (h4 i hi').2 (by simp)
     rw [grw_snoc, if_neg (hne0 i hi')]
     exact ⟨v1, v2.stable k1 v2.ne (.inl v2.x) fun h => v2.e (hE _ h).1⟩
end
end Go.Avc
/- Maps whose values are slices that grow: entries looked up and written in a frame. Conditions: none. -/
namespace Go.Avc
open Go.RowKit
section
variable {α : Type} [DecidableEq α] {C : MKey α} {sz : Nat} {L : List (α × List PV)} {Γ : Ctx} {s : St} {a : Act} {w : World}
theorem R.drawn (hR : R Γ s a w) : R Γ s a { w with drawn := w.drawn + 1 } := by
 obtain ⟨X, β, hr, g⟩ := hR
 exact ⟨X, β, hr.heap rfl rfl tpr rfl, g.sub, g.old, fun hon i t hi => Γ.y.stable i t X _ _ w _ (g.gh hon i t hi) ⟨rfl, tpr, rfl, Nat.le_refl _, fun _ _ _ => rfl⟩ (by rintro b ⟨k, bi, hk, hv, rfl⟩; exact ⟨.inl ⟨k, bi, hk, hv, rfl⟩, hr.lt k bi hk hv⟩), g.lone, g.marks⟩
theorem R.putV (hR : R Γ s a w) {d : Nat} (hd : d < Γ.N) {v : AV} {u : Value} (hv : ∀ (w : World) (A : Nat → Prop) (β : BM), AR w A β v u) (hk : v.keys = []) : R Γ (s.put d v) (a.put (some d) u) w := by
 obtain ⟨X, β, h, g⟩ := hR
 exact ⟨X, β, h.put hd (hv _ _ _) (by rw [hk]; intro k hk; cases hk), g.sub, g.old, fun hon i t hi => g.gh hon i t (by rw [St.get_put, if_neg (Nat.ne_of_lt hd)] at hi; exact hi), g.lone, g.marks⟩
theorem R.lookT (hR : R Γ s a w) (hG : GCtx C sz L Γ) {i mb : Nat} (hgh : s.get Γ.N = .gh (gIx L.length mb i) false) (hi : i < L.length) {t kt et : TypeId} (ht : Γ.P.underlying t = some (.map kt et)) (hok : C.ok Γ.P kt = true)
   (hmem : L[i].1 ∈ gks (L.take i)) {d k : Nat} (hd : d < Γ.N) (hk : k ∉ s.used) (hfx : k ∉ Γ.fx) :
   ∃ v, (∀ w' : World, w'.heap[mb]? = w.heap[mb]? → (Instr.lookup t (.map (some mb)) (C.val L[i].1) false).run Γ.P w' = .ok v w') ∧
     R Γ (((s.new k (.row sz (grw (L.take i) L[i].1))).put Γ.N (.gh (gIx L.length mb i) true)).put d (.lsl k 0 (grw (L.take i) L[i].1).length)) (a.put (some d) v) w := by
 obtain ⟨X, β, h, g⟩ := hR
 obtain ⟨hon, hJ, hdf, hβ0, hX0⟩ := hG
 have hj0 := g.gh hon _ _ hgh
 rw [hJ] at hj0
 obtain ⟨b1, b2, b3⟩ := hj0
 have G : GMap C sz mb (gOld Γ.w0 Γ.X) (L.take i) none X (Ex β) w := b3 mb i rfl (Nat.le_of_lt hi)
 obtain ⟨j, hj, hkj⟩ := List.getElem_of_mem hmem
 obtain ⟨b, cap, r1, A, G'⟩ := G.look ht hok hj hkj L[i].2
 have h1 := h.others (Γ := Γ) (X' := X) (E := fun _ => False) (w' := w) (Kp.refl _ _) (fun x e => e.elim) (fun x hx e => e.elim) (fun x _ hx => hx) (fun x hx => h.Xlt x hx)
 obtain ⟨tot, o1, o2⟩ := A.ok
 obtain ⟨bi, hbi⟩ : ∃ bi : BI, bi = ⟨b, sz, tot, (grw (L.take i) L[i].1).length, false⟩ := ⟨_, rfl⟩
 rw [← hbi] at o2
 have hbb : bi.b = b := by rw [hbi]
 have h2 := h1.adopt (Γ := Γ) hk hfx (bi := bi) (by rw [hbi]) (hbb ▸ A.x) (hbb ▸ A.o.1) o2
 have h3 := (h2.putG (Γ := Γ.atX _) (gIx L.length mb i) true).put (d := d) (v := .lsl k 0 (grw (L.take i) L[i].1).length) (u := .slice (some ⟨b, 0, none⟩) (grw (L.take i) L[i].1).length cap) hd
   (by
     have := AR.lsl (w := w) (A := Av (Γ.atX fun b => X b ∧ b ≠ bi.b).X (fun j => if j = k then some bi else β j)) k 0 (grw (L.take i) L[i].1).length bi cap (β := fun j => if j = k then some bi else β j) (by simp) (by rw [hbi]) A.hc (by rw [hbi]; simpa using o1) (by rw [hbi]; simp) A.hm
     rw [hbi, Nat.zero_mul] at this
     rw [hbi]
     exact this)
   (by
     intro x hx
     simp only [AV.keys, List.mem_singleton] at hx
     subst hx
     exact List.mem_cons_self)
 refine ⟨_, r1, _, _, h3, ?_⟩
 have hEx : ∀ x, Ex (fun j => if j = k then some bi else β j) x → Ex β x ∨ x = b := by
   rintro x ⟨j', bj, e1, e2, rfl⟩
   by_cases e : j' = k
   · simp only [e, if_true] at e1
     cases e1; exact .inr hbb
   · simp only [if_neg e] at e1
     exact .inl ⟨j', bj, e1, e2, rfl⟩
 exact
 { sub := fun x hx => ⟨g.sub x hx, fun e => A.o.2 (hbb ▸ e ▸ hx)⟩
   old := fun x hx hx' => g.old x hx hx'.1
   lone := g.lone
   gh := fun _ j' t' hj' => by
     rw [St.get_put, if_neg (Nat.ne_of_lt hd), St.get_put, if_pos rfl] at hj'
     cases hj'
     rw [hJ]
     refine ⟨b1, fun x hx => ?_, fun mb' j' e hj' => ?_⟩
     · rcases hEx x hx with hx | rfl
       · exact b2 x hx
       · exact A.o.1
     · obtain ⟨rfl, rfl⟩ := gIx_inj e (Nat.le_of_lt hi) hj'
       rw [hbb]
       exact ⟨hi, G'.stable (Kp.refl _ _) fun x hx => ⟨.inl (hEx x hx), by
         rcases hEx x hx with ⟨j', bj, e1, e2, rfl⟩ | rfl
         · exact h.lt j' bj e1 e2
         · exact A.lt⟩⟩
   marks := by
     obtain ⟨mk, m1, m2, m3⟩ := g.marks
     rw [g.lone hon] at m1
     have e1 : mk = [] := (List.append_eq_nil_iff.1 m1.symm).1
     subst e1
     exact ⟨[], by rw [show (a.put (some d) _).defers = a.defers from rfl, g.lone hon]; exact m1, m2, fun d' hd' => by cases hd'⟩ }
theorem R.lookN (hR : R Γ s a w) (hG : GCtx C sz L Γ) {i mb : Nat} (hgh : s.get Γ.N = .gh (gIx L.length mb i) false) (hi : i < L.length) {t kt et : TypeId} (ht : Γ.P.underlying t = some (.map kt et)) (hz : ∀ u : World, (zeroValue et).run Γ.P u = .ok (.slice none 0 0) u) (hok : C.ok Γ.P kt = true)
   (hno : L[i].1 ∉ gks (L.take i)) (w' : World) (hw' : w'.heap[mb]? = w.heap[mb]?) : (Instr.lookup t (.map (some mb)) (C.val L[i].1) false).run Γ.P w' = .ok (.slice none 0 0) w' := by
 obtain ⟨X, β, h, g⟩ := hR
 obtain ⟨hon, hJ, hdf, hβ0, hX0⟩ := hG
 have hj0 := g.gh hon _ _ hgh
 rw [hJ] at hj0
 obtain ⟨b1, b2, b3⟩ := hj0
 have G : GMap C sz mb (gOld Γ.w0 Γ.X) (L.take i) none X (Ex β) w := b3 mb i rfl (Nat.le_of_lt hi)
 exact G.lookNone ht hz hok hno hw'
theorem R.mapLt (hR : R Γ s a w) (hG : GCtx C sz L Γ) {i mb : Nat} {t : Bool} (hgh : s.get Γ.N = .gh (gIx L.length mb i) t) (hi : i < L.length) : mb < w.heap.size := by
 obtain ⟨X, β, h, g⟩ := hR
 obtain ⟨hon, hJ, hdf, hβ0, hX0⟩ := hG
 have hj0 := g.gh hon _ _ hgh
 rw [hJ] at hj0
 obtain ⟨b1, b2, b3⟩ := hj0
 have := b3 mb i rfl (Nat.le_of_lt hi)
 cases t with
 | false => exact GMap.mlt this
 | true => exact GMap.mlt this.2
theorem R.updT (hR : R Γ s a w) (hG : GCtx C sz L Γ) (hval : ∀ q ∈ L, ∀ p ∈ q.2, ∃ v, p = .val v) {i mb : Nat} (hgh : s.get Γ.N = .gh (gIx L.length mb i) true) (hi : i < L.length) {k : Nat} (hfx : k ∉ Γ.fx) (hblk : s.blk k = some (.row sz (grw (L.take (i + 1)) L[i].1))) {o : Operand} (ho : s.geto o = .lsl k 0 (grw (L.take (i + 1)) L[i].1).length) {t kt et : TypeId} (ht : Γ.P.underlying t = some (.map kt et)) (hok : C.ok Γ.P kt = true) (hmem : L[i].1 ∈ gks (L.take i)) :
   ∃ w', (Instr.mapUpdate t (.map (some mb)) (C.val L[i].1) (a.eval o)).run Γ.P w = .ok () w' ∧ R Γ ((s.kill k).put Γ.N (.gh (gIx L.length mb (i + 1)) false)) a w' := by
 obtain ⟨X, β, h, g⟩ := hR
 obtain ⟨hon, hJ, hdf, hβ0, hX0⟩ := hG
 have hj0 := g.gh hon _ _ hgh
 rw [hJ] at hj0
 obtain ⟨b1, b2, b3⟩ := hj0
 obtain ⟨_, G⟩ : ∃ h : i < L.length, GMap C sz mb (gOld Γ.w0 Γ.X) (L.take i ++ [L[i]]) (some L[i].1) X (Ex β) w := b3 mb i rfl (Nat.le_of_lt hi)
 rw [← take_at hi] at G
 have hpos : 0 < (grw (L.take (i + 1)) L[i].1).length := by rw [take_at hi, grw_snoc, if_pos rfl]; simp
 obtain ⟨bi, hβ, hb⟩ := h.live hblk
 have hev := geto_AR h o
 rw [ho] at hev
 have hplain := hb.plain fun r hr p hp => by
   unfold grw at hr
   rw [List.mem_map] at hr
   obtain ⟨q, hq, rfl⟩ := hr
   exact hval q (List.mem_of_mem_take (List.mem_filter.1 hq).1) p hp
 obtain ⟨N, hN⟩ : ∃ N, N = (grw (L.take (i + 1)) L[i].1).length := ⟨_, rfl⟩
 rw [← hN] at hev hpos
 obtain ⟨cap, v1, v2, v3, v4, v5⟩ : ∃ cap, a.eval o = .slice (some ⟨bi.b, 0, none⟩) N cap ∧ bi.virt = false ∧ N ≤ cap ∧ cap * bi.sz ≤ bi.tot ∧ cap ≤ maxLen := by
   generalize a.eval o = u at hev
   cases hev with
   | lslDead _ _ _ _ hd => rw [hβ] at hd; cases hd
   | lslV _ _ _ _ hb' => exact absurd hpos (by omega)
   | lsl _ _ _ bi' cap hb' hv hn hc hil hm =>
     rw [hβ] at hb'
     cases hb'
     exact ⟨cap, by rw [Nat.zero_mul], hv, hn, by simpa using hc, hm⟩
 have hnX : ¬ X bi.b := h.notX k bi hβ v2
 have hold : Γ.w0.heap.size ≤ bi.b := by
   rcases h.own k bi hβ v2 with h1 | h1
   · exact h1
   · exfalso
     have h1' : Ex Γ.β0 bi.b := h1
     rw [hβ0] at h1'
     obtain ⟨k', bj, e1, e2, e3⟩ := h1'
     unfold bmOf at e1
     split at e1
     · rename_i hx
       cases e1
       rw [← e3] at hnX
       exact hnX (g.sub _ hx)
     · cases e1
 have hne : bi.b ≠ mb := fun e => hnX (e ▸ G.mx)
 have hszb : bi.sz = sz := hplain.1
 have hlen : bi.len = (grw (L.take (i + 1)) L[i].1).length := hplain.2.2.1.symm
 obtain ⟨β', hβ'⟩ : ∃ β' : BM, β' = fun j => if j = k then none else β j := ⟨_, rfl⟩
 have hEx : ∀ x, Ex β' x → Ex β x ∧ x ≠ bi.b := by
   rintro x ⟨j', bj, e1, e2, rfl⟩
   rw [hβ'] at e1
   by_cases e : j' = k
   · simp [e] at e1
   · simp only [if_neg e] at e1
     exact ⟨⟨j', bj, e1, e2, rfl⟩, fun eq => e (h.inj j' k bj bi e1 hβ e2 v2 eq)⟩
 have hA : GArr sz mb (gOld Γ.w0 Γ.X) bi.b cap (grw (L.take (i + 1)) L[i].1) (fun x => X x ∨ x = bi.b) (Ex β') w := by
   refine ⟨.inr rfl, fun he => (hEx _ he).2 rfl, ⟨hold, fun hx => hnX (g.sub _ hx)⟩, h.lt k bi hβ v2, hne, by omega, v5, bi.tot, by rw [← hszb]; exact v4, ?_⟩
   have e : (⟨bi.b, sz, bi.tot, (grw (L.take (i + 1)) L[i].1).length, false⟩ : BI) = bi := by
     rw [← hszb, ← hlen, ← v2]
   rw [e]; exact hplain
 obtain ⟨w', r1, k1, G'⟩ := G.upd ht hok (by rw [take_at hi, gks_snoc, if_pos hmem]; exact hmem) hnX hA hEx
 have h1 := h.release (Γ := Γ) hfx hβ v2
 rw [← hβ'] at h1
 have h2 := h1.others (Γ := Γ) (X' := fun x => X x ∨ x = bi.b) k1 (fun x e => e ▸ .inl G.mx) (fun x hx e => by subst e; have h9 : Γ.w0.heap.size ≤ x := G.mo.1; omega) (fun x _ hx => hx) (fun x hx => by
   rcases hx with hx | rfl
   · exact Nat.lt_of_lt_of_le (h.Xlt x hx) k1.size
   · exact Nat.lt_of_lt_of_le (h.lt k bi hβ v2) k1.size)
 refine ⟨w', by rw [v1, hN]; exact r1, _, _, h2.putG (Γ := Γ.atX _) (gIx L.length mb (i + 1)) false, ?_⟩
 exact
 { sub := fun x hx => .inl (g.sub x hx)
   old := fun x hx hx' => by
     rcases hx' with hx' | rfl
     · exact g.old x hx hx'
     · omega
   lone := g.lone
   gh := fun _ j' t' hj' => by
     rw [St.get_put, if_pos rfl] at hj'
     cases hj'
     rw [hJ]
     refine ⟨gBase_kp b1 (fun x e => by subst e; exact G.mo.1) k1, fun x hx => b2 x (hEx x hx).1, fun mb' j' e hj' => ?_⟩
     obtain ⟨rfl, rfl⟩ := gIx_inj e hi hj'
     exact G'
   marks := by
     obtain ⟨mk, m1, m2, m3⟩ := g.marks
     rw [g.lone hon] at m1
     have e1 : mk = [] := (List.append_eq_nil_iff.1 m1.symm).1
     subst e1
     exact ⟨[], by rw [g.lone hon]; exact m1, m2, fun d' hd' => by cases hd'⟩ }
theorem R.addN (hR : R Γ s a w) (hG : GCtx C sz L Γ) (hval : ∀ q ∈ L, ∀ p ∈ q.2, ∃ v, p = .val v) {i mb : Nat} (hgh : s.get Γ.N = .gh (gIx L.length mb i) false) (hi : i < L.length) {k : Nat} (hfx : k ∉ Γ.fx) (hblk : s.blk k = some (.row sz [L[i].2])) {o : Operand} (ho : s.geto o = .lsl k 0 1) {t kt et : TypeId} (ht : Γ.P.underlying t = some (.map kt et)) (hok : C.ok Γ.P kt = true) (hno : L[i].1 ∉ gks (L.take i)) :
   ∃ w', (Instr.mapUpdate t (.map (some mb)) (C.val L[i].1) (a.eval o)).run Γ.P w = .ok () w' ∧ R Γ ((s.kill k).put Γ.N (.gh (gIx L.length mb (i + 1)) false)) a w' := by
 obtain ⟨X, β, h, g⟩ := hR
 obtain ⟨hon, hJ, hdf, hβ0, hX0⟩ := hG
 have hj0 := g.gh hon _ _ hgh
 rw [hJ] at hj0
 obtain ⟨b1, b2, b3⟩ := hj0
 have G : GMap C sz mb (gOld Γ.w0 Γ.X) (L.take i) none X (Ex β) w := b3 mb i rfl (Nat.le_of_lt hi)
 have hpos : 0 < 1 := Nat.one_pos
 obtain ⟨bi, hβ, hb⟩ := h.live hblk
 have hev := geto_AR h o
 rw [ho] at hev
 have hplain := hb.plain fun r hr p hp => by
   rw [List.mem_singleton] at hr
   subst hr
   exact hval L[i] (List.getElem_mem hi) p hp
 obtain ⟨N, hN⟩ : ∃ N, N = 1 := ⟨_, rfl⟩
 rw [← hN] at hev hpos
 obtain ⟨cap, v1, v2, v3, v4, v5⟩ : ∃ cap, a.eval o = .slice (some ⟨bi.b, 0, none⟩) N cap ∧ bi.virt = false ∧ N ≤ cap ∧ cap * bi.sz ≤ bi.tot ∧ cap ≤ maxLen := by
   generalize a.eval o = u at hev
   cases hev with
   | lslDead _ _ _ _ hd => rw [hβ] at hd; cases hd
   | lslV _ _ _ _ hb' => exact absurd hpos (by omega)
   | lsl _ _ _ bi' cap hb' hv hn hc hil hm =>
     rw [hβ] at hb'
     cases hb'
     exact ⟨cap, by rw [Nat.zero_mul], hv, hn, by simpa using hc, hm⟩
 have hnX : ¬ X bi.b := h.notX k bi hβ v2
 have hold : Γ.w0.heap.size ≤ bi.b := by
   rcases h.own k bi hβ v2 with h1 | h1
   · exact h1
   · exfalso
     have h1' : Ex Γ.β0 bi.b := h1
     rw [hβ0] at h1'
     obtain ⟨k', bj, e1, e2, e3⟩ := h1'
     unfold bmOf at e1
     split at e1
     · rename_i hx
       cases e1
       rw [← e3] at hnX
       exact hnX (g.sub _ hx)
     · cases e1
 have hne : bi.b ≠ mb := fun e => hnX (e ▸ G.mx)
 have hszb : bi.sz = sz := hplain.1
 have hlen : bi.len = 1 := hplain.2.2.1.symm
 obtain ⟨β', hβ'⟩ : ∃ β' : BM, β' = fun j => if j = k then none else β j := ⟨_, rfl⟩
 have hEx : ∀ x, Ex β' x → Ex β x ∧ x ≠ bi.b := by
   rintro x ⟨j', bj, e1, e2, rfl⟩
   rw [hβ'] at e1
   by_cases e : j' = k
   · simp [e] at e1
   · simp only [if_neg e] at e1
     exact ⟨⟨j', bj, e1, e2, rfl⟩, fun eq => e (h.inj j' k bj bi e1 hβ e2 v2 eq)⟩
 have hA : GArr sz mb (gOld Γ.w0 Γ.X) bi.b cap [L[i].2] (fun x => X x ∨ x = bi.b) (Ex β') w := by
   refine ⟨.inr rfl, fun he => (hEx _ he).2 rfl, ⟨hold, fun hx => hnX (g.sub _ hx)⟩, h.lt k bi hβ v2, hne, (by show 1 ≤ cap; omega), v5, bi.tot, by rw [← hszb]; exact v4, ?_⟩
   have e : (⟨bi.b, sz, bi.tot, 1, false⟩ : BI) = bi := by
     rw [← hszb, ← hlen, ← v2]
   show BOK w _ _ ⟨bi.b, sz, bi.tot, 1, false⟩ _
   rw [e]; exact hplain
 obtain ⟨w', r1, k1, G'⟩ := G.add ht hok hno hnX hA hEx
 rw [show L.take i ++ [(L[i].1, L[i].2)] = L.take (i + 1) from (take_at hi).symm] at G'
 have h1 := h.release (Γ := Γ) hfx hβ v2
 rw [← hβ'] at h1
 have h2 := h1.others (Γ := Γ) (X' := fun x => X x ∨ x = bi.b) k1 (fun x e => e ▸ .inl G.mx) (fun x hx e => by subst e; have h9 : Γ.w0.heap.size ≤ x := G.mo.1; omega) (fun x _ hx => hx) (fun x hx => by
   rcases hx with hx | rfl
   · exact Nat.lt_of_lt_of_le (h.Xlt x hx) k1.size
   · exact Nat.lt_of_lt_of_le (h.lt k bi hβ v2) k1.size)
 refine ⟨w', by rw [v1, hN]; exact r1, _, _, h2.putG (Γ := Γ.atX _) (gIx L.length mb (i + 1)) false, ?_⟩
 exact
 { sub := fun x hx => .inl (g.sub x hx)
   old := fun x hx hx' => by
     rcases hx' with hx' | rfl
     · exact g.old x hx hx'
     · omega
   lone := g.lone
   gh := fun _ j' t' hj' => by
     rw [St.get_put, if_pos rfl] at hj'
     cases hj'
     rw [hJ]
     refine ⟨gBase_kp b1 (fun x e => by subst e; exact G.mo.1) k1, fun x hx => b2 x (hEx x hx).1, fun mb' j' e hj' => ?_⟩
     obtain ⟨rfl, rfl⟩ := gIx_inj e hi hj'
     exact G'
   marks := by
     obtain ⟨mk, m1, m2, m3⟩ := g.marks
     rw [g.lone hon] at m1
     have e1 : mk = [] := (List.append_eq_nil_iff.1 m1.symm).1
     subst e1
     exact ⟨[], by rw [g.lone hon]; exact m1, m2, fun d' hd' => by cases hd'⟩ }
end
end Go.Avc
/- Drawn regions in which a map's slice grows: what a frame reads of its own boxes, step by step. Conditions: none. -/
namespace Go.Avc
open Go.RowKit
section
variable {Γ : Ctx} {s : St} {a : Act} {w : World} {F : Fence} {n : Nat} {more : St → Oper → Kont → Prop}
theorem R.ev (hR : R Γ s a w) {o : Operand} {v : Value} (h : s.geto o = .pure (.val v)) : a.eval o = v := by
 obtain ⟨X, β, hr, _⟩ := hR
 have := geto_AR hr o
 rw [h] at this
 exact this.val_inv
theorem R.ev2 (hR : R Γ s a w) {o : Operand} {u v : Value} (h : s.geto o = .pure (.agg [.val u, .val v])) : a.eval o = .agg #[u, v] := by
 obtain ⟨X, β, hr, _⟩ := hR
 have := geto_AR hr o
 rw [h] at this
 generalize a.eval o = q at this
 cases this with
 | pure _ _ hp =>
   cases hp with
   | agg _ vs hl hp =>
     have h0 := (hp 0 _ rfl).val_inv
     have h1 := (hp 1 _ rfl).val_inv
     congr 1
     match vs, hl with
     | ⟨[x, y]⟩, _ => simp at h0 h1; rw [h0, h1]
theorem R.boxAt (hR : R Γ s a w) {o : Operand} {k : Nat} {cells : List AV} (hg : s.geto o = .loc k 0 0) (hb : s.blk k = some (.box cells)) :
   ∃ b, a.eval o = .pointer (some ⟨b, 0, none⟩) ∧ b < w.heap.size ∧ ∀ j v, cells[j]? = some (.pure (.val v)) → w.cell? ⟨b, j, none⟩ = some v := by
 obtain ⟨X, β, h, _⟩ := hR
 have hev := geto_AR h o
 rw [hg] at hev
 obtain ⟨bi, hβ, h1, cs, e, fz, h2, h3, h4, h5, h6⟩ := h.live hb
 have hlt := h.lt k bi hβ h1
 generalize a.eval o = u at hev ⊢
 cases hev with
 | locDead _ _ _ _ hd => rw [hβ] at hd; cases hd
 | loc _ _ _ bi' hb' =>
   rw [hβ] at hb'
   cases hb'
   refine ⟨bi.b, by simp_all, hlt, fun j v hj => ?_⟩
   have hjl : j < cs.size := by rw [h4]; exact (List.getElem?_eq_some_iff.1 hj).1
   have := (h6 j _ hj).1.val_inv
   rw [Array.getD_eq_getD_getElem?, Array.getElem?_eq_getElem hjl] at this
   simp only [Option.getD_some] at this
   simp [World.cell?, h2, Array.getElem?_eq_getElem hjl, this]
variable {ops : Array Oper} {S : Nat → World → Prop} {C : World → Prop} {P : Program}
def HEnd (Γ : Ctx) (K : Exit → St → Prop) (e : Exit) (a : Act) (w : World) : Prop := e = .normal ∧ ∃ s', K .normal s' ∧ R Γ s' a w
theorem Wp.ofHeld {id : Nat} {K : Exit → St → Prop} (hfol : Γ.P.follows .mixedOrders = true) (h : ∀ a w, R Γ s a w → ∃ S, wpAnyHeld F n Γ.P .any ops (HEnd Γ K) S ops.size (Array.replicate ops.size false) a w) : Wp Γ F n (.region id ops true) s K := by
 intro a w hR
 obtain ⟨S, hS⟩ := h a _ hR.drawn
 refine wpIn_mono (wpIn_region_held hfol hS) ?_
 rintro e a' w' ⟨rfl, s', h1, h2⟩
 exact ⟨s', .inl h1, h2⟩
theorem Wp.chain {c : Code} {K : Exit → St → Prop} (s6 : St) (h1 : Wp Γ F n c s fun e s' => e = .normal ∧ Le Γ s' s6) (h2 : ∀ s', Le Γ s' s6 → K .normal s') : Wp Γ F n c s K :=
 Wp.mono h1 fun e s' h => by
   obtain ⟨rfl, h⟩ := h
   exact h2 s' h
theorem held_take {K : Exit → St → Prop} {i d : Nat} {oi : Oper} {v : Value} {fuel : Nat} {listed : Array Bool} (hro : F.round = none) (hi : ops[i]? = some oi)
   (hs : Region.noSelect ops = true) (hf : Region.free .any ops listed i = true) (hr : (Region.ready .any ops listed).contains i = true) (hd : oi.dst = some d) (hg : oi.guard = none)
   (hS : ∀ w, C w → S i w) {bs : List Nat} (hb : befores .any ops listed i = bs) (hbs : ∀ j ∈ bs, ∀ w, S j w → C w) (hC : C w) (hab : ∀ w, oi.about Γ.P w a.eval = none) (hy : ∀ w, C w → (execOp a.eval oi).run Γ.P w = .ok (.value v) w)
   (h : wpAnyHeld F n Γ.P .any ops (HEnd Γ K) S fuel (listed.setIfInBounds i true) (a.put (some d) v) w) : wpAnyHeld F n Γ.P .any ops (HEnd Γ K) S (fuel + 1) listed a w := by
 refine wpAnyHeld_take hro hi hs hf hr (fun c a w h => ?_) hS hb hbs hC ⟨by simp [Region.wanted, hg], hy, hab⟩ (by rw [hd]; exact h)
 obtain ⟨h1, _⟩ := h
 cases h1
theorem opK_world (hm : MoreOK more Γ) (hF : FOK F) (hR : R Γ s a w) {o : Oper} (hok : dstOk Γ.N o.dst = true) {C : St → Prop} (hv : opK false more Γ.pk Γ.y Γ.N Γ.fx s o C) (hpk : Γ.pk = none) (hnd : ∀ c, o.op ≠ .defer c)
   {v : Value} {w' : World} (hr : (execOp a.eval o).run Γ.P w = .ok (.value v) w') : ∃ s', C s' ∧ R Γ s' (a.put o.dst v) w' := by
 have := opK_sound (n := 0) hm hF hR hok hv (next := fun a' w' => ∃ s', C s' ∧ R Γ s' a' w') (Q := fun _ _ _ => False) (fun s' a' w' h1 h2 => ⟨s', h1, h2⟩) (fun e s' a' w' h => by
   obtain ⟨v, D, h1, _⟩ := h
   rw [hpk] at h1
   cases h1)
 have := this.2
 rw [Oper.semAt_eq _ _ _ hnd, hr] at this
 exact this
theorem opsVC_one {pk : Option (Value × (St → Prop))} {y : Yl P} {N : Nat} {fx : List Nat} {os : List Oper} {o : Oper} {l : List Oper} {K : St → Prop} (h : opsVC false more P pk y N fx os (o :: l) s K) (hg : o.guard = none) : dstOk N o.dst = true ∧ opK false more pk y N fx s o (fun s' => opsVC false more P pk y N fx os l s' K) := by
 change opsStep false more P pk y N fx os o (opsVC false more P pk y N fx os l) s K at h
 unfold opsStep at h
 rw [hg] at h
 split at h
 · exact h.elim
 · rename_i hok
   exact ⟨hok, h⟩
end
theorem execLoad {P : Program} {ρ : Operand → Value} {o : Oper} {t : TypeId} {x : Operand} (ho : o.op = .load t x) (ha : aggOf P t = some false) {ad : Addr} (hx : ρ x = .pointer (some ad)) {w : World} {v : Value} (hc : w.cell? ad = some v) : (execOp ρ o).run P w = .ok (.value v) w := by
 simp [execOp, ho, hx, Instr.loadAt, Instr.sureAddr, run_loadVar_one ha hc]
def offB (P : Program) (t : TypeId) (f off : Nat) : Bool := match fieldOf P t f with
 | some fd => match szOf P fd.type with
   | some (_ + 1) => fd.offset == off
   | _ => false
 | none => false
theorem execField {P : Program} {ρ : Operand → Value} {o : Oper} {t : TypeId} {x : Operand} {f b off : Nat} (ho : o.op = .fieldAddr t x f) (h : offB P t f off = true) (hx : ρ x = .pointer (some ⟨b, 0, none⟩)) {w : World} : (execOp ρ o).run P w = .ok (.value (.pointer (some ⟨b, off, none⟩))) w := by
 unfold offB at h
 split at h
 case h_2 => cases h
 rename_i fd hfd
 split at h
 case h_2 => cases h
 rename_i m hn
 have : fd.offset = off := by simpa using h
 subst this
 simp [execOp, ho, hx, run_fieldAt hfd hn, addr_add]
theorem execMove {P : Program} {ρ : Operand → Value} {o : Oper} {x : Operand} (ho : o.op = .move x) {v : Value} (hx : ρ x = v) {w : World} : (execOp ρ o).run P w = .ok (.value v) w := by
 simp [execOp, ho, hx]
theorem execLookup {P : Program} {ρ : Operand → Value} {o : Oper} {t : TypeId} {x k : Operand} {c : Bool} (ho : o.op = .lookup t x k c) {u q v : Value} (hx : ρ x = u) (hk : ρ k = q) {w : World} (h : (Instr.lookup t u q c).run P w = .ok v w) : (execOp ρ o).run P w = .ok (.value v) w := by
 simp [execOp, ho, hx, hk, h]
theorem execMul {P : Program} {ρ : Operand → Value} {o : Oper} {t ty : TypeId} {x y : Operand} (ho : o.op = .binOp .mul t x y ty) {a b : Int} (hx : ρ x = .int .i64 a) (hy : ρ y = .int .i64 b) (h1 : -9223372036854775808 ≤ a * b) (h2 : a * b ≤ 9223372036854775807) {w : World} : (execOp ρ o).run P w = .ok (.value (.int .i64 (a * b))) w := by
 have hw : IntKind.i64.wrap (a * b) = a * b := by rw [IntKind.wrap_i64]; omega
 simp [execOp, ho, hx, hy, eqGuard, binOp, Op.intArith, hw]
theorem execAdd {P : Program} {ρ : Operand → Value} {o : Oper} {t ty : TypeId} {x y : Operand} (ho : o.op = .binOp .add t x y ty) {a b : Int} (hx : ρ x = .int .i64 a) (hy : ρ y = .int .i64 b) (h1 : -9223372036854775808 ≤ a + b) (h2 : a + b ≤ 9223372036854775807) {w : World} : (execOp ρ o).run P w = .ok (.value (.int .i64 (a + b))) w := by
 have hw : IntKind.i64.wrap (a + b) = a + b := by rw [IntKind.wrap_i64]; omega
 simp [execOp, ho, hx, hy, eqGuard, binOp, Op.intArith, hw]
theorem execBuild2 {P : Program} {ρ : Operand → Value} {o : Oper} {t : TypeId} {x y : Operand} (ho : o.op = .build t #[(0, x), (1, y)]) {u v : Value} (hx : ρ x = u) (hy : ρ y = v) (hb : P.built t [(0, u), (1, v)] = some #[u, v]) {w : World} : (execOp ρ o).run P w = .ok (.value (.agg #[u, v])) w := by
 have := run_build w t #[(0, u), (1, v)] _ hb
 simp [execOp, ho, hx, hy, this]
theorem pr_agg2 {w : World} {A : Nat → Prop} (u v : Value) : PR w A (.agg [.val u, .val v]) (.agg #[u, v]) := .agg _ _ rfl fun j p hj => by
 match j, hj with
 | 0, hj => cases hj; exact .val _
 | 1, hj => cases hj; exact .val _
theorem zeroAny {P : Program} {et : TypeId} (h : ((P.info? et).bind (fun i => i.zero)).isSome = true) : ∃ zv, ∀ u : World, (zeroValue et).run P u = .ok zv u := by
 cases hi : P.info? et with
 | none => rw [hi] at h; cases h
 | some i =>
   cases hz : i.zero with
   | none => rw [hi] at h; simp [hz] at h
   | some zv => exact ⟨zv, fun u => by simp [zeroValue, typeInfo, hi, hz]⟩
theorem evNe {a : Act} {d e : Nat} {v : Value} (h : d ≠ e) : (a.put (some d) v).eval (.tmp e) = a.eval (.tmp e) := by
 show (a.tmps.setIfInBounds d v).getD e undef = a.tmps.getD e undef
 simp only [Array.getD_eq_getD_getElem?, Array.getElem?_setIfInBounds]
 rw [if_neg h]
def SS (C1 M : World → Prop) (mid lst : Nat) (j : Nat) (w : World) : Prop := (j = lst ∨ C1 w) ∧ (j = mid → M w)
section
variable {Γ : Ctx} {s : St} {a : Act} {w : World} {F : Fence} {n : Nat} {ops : Array Oper} {C1 M : World → Prop} {mid lst : Nat}
theorem held_takeA {K : Exit → St → Prop} {i d : Nat} {oi : Oper} {v : Value} {fuel : Nat} {listed : Array Bool} (hi : ops[i]? = some oi) (hd : oi.dst = some d) (hg : oi.guard = none)
   (hb : (Region.noSelect ops && Region.free .any ops listed i && (Region.ready .any ops listed).contains i && !(befores .any ops listed i).contains lst && !(i == mid)) = true) (hro : F.round = none) (hC : C1 w) (hab : ∀ w, oi.about Γ.P w a.eval = none) (hy : ∀ w, C1 w → (execOp a.eval oi).run Γ.P w = .ok (.value v) w)
   (h : wpAnyHeld F n Γ.P .any ops (HEnd Γ K) (SS C1 M mid lst) fuel (listed.setIfInBounds i true) (a.put (some d) v) w) : wpAnyHeld F n Γ.P .any ops (HEnd Γ K) (SS C1 M mid lst) (fuel + 1) listed a w := by
 simp only [Bool.and_eq_true, Bool.not_eq_true', beq_eq_false_iff_ne] at hb
 obtain ⟨⟨⟨⟨h1, h2⟩, h3⟩, h4⟩, h5⟩ := hb
 refine held_take (C := C1) hro hi h1 h2 h3 hd hg (fun w h => ⟨.inr h, fun e => absurd e h5⟩) rfl (fun j hj w h => h.1.resolve_left fun e => ?_) hC hab hy h
 subst e
 have : (befores .any ops listed i).contains j = true := by simpa using hj
 rw [h4] at this
 cases this
theorem held_takeB {K : Exit → St → Prop} {i d : Nat} {oi : Oper} {v : Value} {fuel : Nat} {listed : Array Bool} (hi : ops[i]? = some oi) (hd : oi.dst = some d) (hg : oi.guard = none)
   (hb : (Region.noSelect ops && Region.free .any ops listed i && (Region.ready .any ops listed).contains i && (befores .any ops listed i).all (· == mid) && !(i == mid) && !(mid == lst)) = true) (hro : F.round = none) (hC : C1 w) (hM : M w) (hab : ∀ w, oi.about Γ.P w a.eval = none) (hy : ∀ w, M w → (execOp a.eval oi).run Γ.P w = .ok (.value v) w)
   (h : wpAnyHeld F n Γ.P .any ops (HEnd Γ K) (SS C1 M mid lst) fuel (listed.setIfInBounds i true) (a.put (some d) v) w) : wpAnyHeld F n Γ.P .any ops (HEnd Γ K) (SS C1 M mid lst) (fuel + 1) listed a w := by
 simp only [Bool.and_eq_true, Bool.not_eq_true', beq_eq_false_iff_ne] at hb
 obtain ⟨⟨⟨⟨⟨h1, h2⟩, h3⟩, h4⟩, h5⟩, h6⟩ := hb
 refine held_take (C := fun w => C1 w ∧ M w) hro hi h1 h2 h3 hd hg (fun w h => ⟨.inr h.1, fun e => absurd e h5⟩) rfl (fun j hj w h => ?_) ⟨hC, hM⟩ hab (fun w h => hy w h.2) h
 have : j = mid := by
   have := List.all_eq_true.1 h4 j hj
   simpa using this
 subst this
 exact ⟨h.1.resolve_left h6, h.2 rfl⟩
end
section
variable {Γ : Ctx} {s : St} {a : Act} {w : World} {F : Fence} {n : Nat} {ops : Array Oper} {C1 : World → Prop} {more : St → Oper → Kont → Prop} {α : Type} [DecidableEq α] {C : MKey α} {sz : Nat} {L : List (α × List PV)}
theorem R.noDefers (hR : R Γ s a w) (hG : GCtx C sz L Γ) : a.defers = [] := by
 obtain ⟨X, β, h, g⟩ := hR
 exact g.lone hG.1
theorem opK_known (hm : MoreOK more Γ) (hF : FOK F) (hG : GCtx C sz L Γ) (hR : R Γ s a w) {o : Oper} (hok : dstOk Γ.N o.dst = true) {D : St → Prop} (hv : opK false more Γ.pk Γ.y Γ.N Γ.fx s o D) (hpk : Γ.pk = none)
   {K : Act → World → Prop} {Q : Exit → Act → World → Prop} (hK : ∀ v s' w', D s' → R Γ s' (a.put o.dst v) w' → K (a.put o.dst v) w') : o.wpIn F n Γ.P a w K Q := by
 have h := opK_sound (n := n) hm hF hR hok hv (next := fun a' w' => ∃ s', D s' ∧ R Γ s' a' w') (Q := fun _ _ _ => False) (fun s' a' w' h1 h2 => ⟨s', h1, h2⟩) (fun e s' a' w' h => by
   obtain ⟨v, D, h1, _⟩ := h
   rw [hpk] at h1
   cases h1)
 unfold Oper.wpIn at h ⊢
 obtain ⟨h0, h⟩ := h
 refine ⟨h0, ?_⟩
 have lo : LetsOut (fun (_ : Exit) (_ : Act) (_ : World) => False) → LetsOut Q := fun ⟨_, _, h⟩ => h.elim
 generalize (o.semAt F.round a.eval).run Γ.P w = r at h ⊢
 cases r with
 | ok x w' =>
   cases x <;> simp only [Oper.uponIn] at h ⊢
   case value u => obtain ⟨s', h1, h2⟩ := h; exact hK _ _ _ h1 h2
   case skip => obtain ⟨s', h1, h2⟩ := h; exact hK _ _ _ h1 h2
   case defer d =>
     obtain ⟨s', h1, h2⟩ := h
     have h3 := h2.noDefers hG
     have h4 : ({ a with defers := d :: a.defers }.put o.dst undef).defers = d :: a.defers := by cases o.dst <;> rfl
     rw [h4] at h3
     cases h3
   case enter f args =>
     refine ⟨h.1, CallsIn.mono h.2 fun e w'' he => ?_⟩
     cases e with
     | returned u => obtain ⟨s', h1, h2⟩ := he; exact hK _ _ _ h1 h2
     | panicked c => exact he.elim
     | outgrown => exact lo he
   case row row args => exact ⟨h.1, RowsIn.mono h.2 fun u w'' he => by obtain ⟨s', h1, h2⟩ := he; exact hK _ _ _ h1 h2⟩
   case round l f tmps assign body =>
     refine ⟨h.1, RoundIn.mono h.2 fun e w'' he => ?_⟩
     cases e with
     | returned u => obtain ⟨s', h1, h2⟩ := he; exact hK _ _ _ h1 h2
     | panicked c => exact he.elim
     | outgrown => exact lo he
 | halt x w' =>
   cases x <;> simp only [Oper.uponIn] at h
theorem held_last (hm : MoreOK more Γ) (hF : FOK F) (hpk : Γ.pk = none) (hG : GCtx C sz L Γ) (hR : R Γ s a w) {K : Exit → St → Prop} {os : List Oper} {p d1 d2 mb : Nat} {o1 o2 o3 : Oper} {listed : Array Bool} {x3 x5 : Nat} (h1 : ops[p]? = some o1) (h2 : ops[p + 1]? = some o2) (h3 : ops[p + 2]? = some o3)
   (hg : o1.guard = none ∧ o2.guard = none ∧ o3.guard = none) (hd : o1.dst = some d1 ∧ o2.dst = some d2 ∧ o3.dst = none) (hne : d1 ≠ x3 ∧ d1 ≠ x5 ∧ d2 ≠ x3 ∧ d2 ≠ x5)
   (hr1 : Region.ready .any ops listed = [p]) (hr2 : Region.ready .any ops (listed.setIfInBounds p true) = [p + 1]) (hr3 : Region.ready .any ops ((listed.setIfInBounds p true).setIfInBounds (p + 1) true) = [p + 2]) (hr4 : Region.ready .any ops (((listed.setIfInBounds p true).setIfInBounds (p + 1) true).setIfInBounds (p + 2) true) = [])
   (hnd1 : ∀ c, o1.op ≠ .defer c) (hnd3 : ∀ c, o3.op ≠ .defer c)
   {BX : St → Prop} (hC1 : ∀ s' a' w', BX s' → R Γ s' a' w' → a'.eval (.tmp x3) = a.eval (.tmp x3) → a'.eval (.tmp x5) = a.eval (.tmp x5) → C1 w') {Fin : St → Prop}
   (hv : opsVC false more Γ.P Γ.pk Γ.y Γ.N Γ.fx os [o1] s fun s1 => BX s1 ∧ opsVC false more Γ.P Γ.pk Γ.y Γ.N Γ.fx os [o2] s1 fun s2 => BX s2 ∧ Fin s2)
   (hrun : ∃ v w', (execOp a.eval o1).run Γ.P w = .ok (.value v) w' ∧ w'.heap[mb]? = w.heap[mb]?)
   (hfin : ∀ s2 a2 w2, Fin s2 → R Γ s2 a2 w2 → ∃ w3 s3, (execOp a2.eval o3).run Γ.P w2 = .ok .skip w3 ∧ R Γ s3 a2 w3 ∧ K .normal s3) :
   wpAnyHeld F n Γ.P .any ops (HEnd Γ K) (SS C1 (fun w' => w'.heap[mb]? = w.heap[mb]?) p (p + 2)) 3 listed a w := by
 obtain ⟨g1, g2, g3⟩ := hg
 obtain ⟨e1, e2, e3⟩ := hd
 obtain ⟨n1, n2, n3, n4⟩ := hne
 refine wpAnyHeld_one h1 g1 hr1 fun K1 hK1 => ?_
 obtain ⟨v1, w1, r1, r2⟩ := hrun
 obtain ⟨q1, q2⟩ := opsVC_one hv g1
 obtain ⟨s1, ⟨b1, hv1⟩, hR1⟩ := opK_world hm hF hR q1 q2 hpk hnd1 r1
 rw [e1] at hR1
 refine wpIn_of_run hF hnd1 r1 (hK1 _ _ ⟨.inr ?_, fun _ => r2⟩ ?_)
 · exact hC1 _ _ _ b1 hR1 (evNe n1) (evNe n2)
 rw [e1]
 refine wpAnyHeld_one h2 g2 hr2 fun K2 hK2 => ?_
 obtain ⟨q3, q4⟩ := opsVC_one hv1 g2
 refine opK_known hm hF hG hR1 q3 q4 hpk fun v2 s2 w2 hD hR2 => ?_
 obtain ⟨b2, hf⟩ := hD
 rw [e2] at hR2
 refine hK2 _ _ ⟨.inr ?_, fun e => absurd e (by omega)⟩ ?_
 · rw [e2] at *
   exact hC1 _ _ _ b2 hR2 ((evNe n3).trans (evNe n1)) ((evNe n4).trans (evNe n2))
 rw [e2]
 refine wpAnyHeld_one h3 g3 hr3 fun K3 hK3 => ?_
 obtain ⟨w3, s3, r3, hR3, hk⟩ := hfin _ _ _ hf hR2
 refine wpIn_of_skip hF hnd3 r3 (hK3 _ _ ⟨.inl rfl, fun e => absurd e (by omega)⟩ ?_)
 rw [e3]
 exact wpAnyHeld_done hr4 ⟨rfl, s3, hk, hR3⟩ 0
theorem held_lastT (hm : MoreOK more Γ) (hF : FOK F) (hpk : Γ.pk = none) (hG : GCtx C sz L Γ) (hval : ∀ q ∈ L, ∀ p ∈ q.2, ∃ v, p = .val v) (hR : R Γ s a w) {K : Exit → St → Prop} {os : List Oper} {p d1 d2 mb k : Nat} {o1 o2 o3 : Oper} {listed : Array Bool} {x3 x5 : Nat} (h1 : ops[p]? = some o1) (h2 : ops[p + 1]? = some o2) (h3 : ops[p + 2]? = some o3)
   (hg : o1.guard = none ∧ o2.guard = none ∧ o3.guard = none) (hd : o1.dst = some d1 ∧ o2.dst = some d2 ∧ o3.dst = none) (hne : d1 ≠ x3 ∧ d1 ≠ x5 ∧ d2 ≠ x3 ∧ d2 ≠ x5)
   (hr1 : Region.ready .any ops listed = [p]) (hr2 : Region.ready .any ops (listed.setIfInBounds p true) = [p + 1]) (hr3 : Region.ready .any ops ((listed.setIfInBounds p true).setIfInBounds (p + 1) true) = [p + 2]) (hr4 : Region.ready .any ops (((listed.setIfInBounds p true).setIfInBounds (p + 1) true).setIfInBounds (p + 2) true) = [])
   {t1 : TypeId} {ps : Array (Nat × Operand)} (ho1 : o1.op = .buildSlice t1 1 ps) {t kt et : TypeId} {x y z : Operand} (ho3 : o3.op = .mapUpdate t x y z) (ht : Γ.P.underlying t = some (.map kt et)) (hok : C.ok Γ.P kt = true) {i : Nat} (hi : i < L.length) (hfx : k ∉ Γ.fx)
   {BX : St → Prop} (hC1 : ∀ s' a' w', BX s' → R Γ s' a' w' → a'.eval (.tmp x3) = a.eval (.tmp x3) → a'.eval (.tmp x5) = a.eval (.tmp x5) → C1 w')
   (hrun : ∃ r o', (execOp a.eval o1).run Γ.P w = .ok (.value r) (w.alloc o')) (hmb : mb < w.heap.size) (hmem : L[i].1 ∈ gks (L.take i))
   (hv : opsVC false more Γ.P Γ.pk Γ.y Γ.N Γ.fx os [o1] s fun s1 => BX s1 ∧ opsVC false more Γ.P Γ.pk Γ.y Γ.N Γ.fx os [o2] s1 fun s2 => BX s2 ∧ s2.geto x = .pure (.val (.map (some mb))) ∧ s2.geto y = .pure (.val (C.val L[i].1)) ∧ s2.geto z = .lsl k 0 (grw (L.take (i + 1)) L[i].1).length ∧ s2.blk k = some (.row sz (grw (L.take (i + 1)) L[i].1)) ∧ s2.get Γ.N = .gh (gIx L.length mb i) true ∧ K .normal ((s2.kill k).put Γ.N (.gh (gIx L.length mb (i + 1)) false))) :
   wpAnyHeld F n Γ.P .any ops (HEnd Γ K) (SS C1 (fun w' => w'.heap[mb]? = w.heap[mb]?) p (p + 2)) 3 listed a w := by
 refine held_last (x3 := x3) (x5 := x5) hm hF hpk hG hR h1 h2 h3 hg hd hne hr1 hr2 hr3 hr4 (by rw [ho1]; intro c; simp) (by rw [ho3]; intro c; simp) hC1 hv (by obtain ⟨r, o', h⟩ := hrun; exact ⟨r, _, h, heap_alloc_old _ _ hmb⟩) ?_
 rintro s2 a2 w2 ⟨q1, q2, q3, q4, q5, q6⟩ hR2
 obtain ⟨w3, r1, r2⟩ := hR2.updT hG hval q5 hi hfx q4 q3 ht hok hmem
 refine ⟨w3, _, ?_, r2, q6⟩
 have e1 := hR2.ev q1
 have e2 := hR2.ev q2
 simp [execOp, ho3, e1, e2, r1]
theorem held_lastN (hm : MoreOK more Γ) (hF : FOK F) (hpk : Γ.pk = none) (hG : GCtx C sz L Γ) (hval : ∀ q ∈ L, ∀ p ∈ q.2, ∃ v, p = .val v) (hR : R Γ s a w) {K : Exit → St → Prop} {os : List Oper} {p d1 d2 mb k : Nat} {o1 o2 o3 : Oper} {listed : Array Bool} {x3 x5 : Nat} (h1 : ops[p]? = some o1) (h2 : ops[p + 1]? = some o2) (h3 : ops[p + 2]? = some o3)
   (hg : o1.guard = none ∧ o2.guard = none ∧ o3.guard = none) (hd : o1.dst = some d1 ∧ o2.dst = some d2 ∧ o3.dst = none) (hne : d1 ≠ x3 ∧ d1 ≠ x5 ∧ d2 ≠ x3 ∧ d2 ≠ x5)
   (hr1 : Region.ready .any ops listed = [p]) (hr2 : Region.ready .any ops (listed.setIfInBounds p true) = [p + 1]) (hr3 : Region.ready .any ops ((listed.setIfInBounds p true).setIfInBounds (p + 1) true) = [p + 2]) (hr4 : Region.ready .any ops (((listed.setIfInBounds p true).setIfInBounds (p + 1) true).setIfInBounds (p + 2) true) = [])
   {t1 : TypeId} {ps : Array (Nat × Operand)} (ho1 : o1.op = .buildSlice t1 1 ps) {t kt et : TypeId} {x y z : Operand} (ho3 : o3.op = .mapUpdate t x y z) (ht : Γ.P.underlying t = some (.map kt et)) (hok : C.ok Γ.P kt = true) {i : Nat} (hi : i < L.length) (hfx : k ∉ Γ.fx)
   {BX : St → Prop} (hC1 : ∀ s' a' w', BX s' → R Γ s' a' w' → a'.eval (.tmp x3) = a.eval (.tmp x3) → a'.eval (.tmp x5) = a.eval (.tmp x5) → C1 w')
   (hrun : ∃ r o', (execOp a.eval o1).run Γ.P w = .ok (.value r) (w.alloc o')) (hmb : mb < w.heap.size) (hno : L[i].1 ∉ gks (L.take i))
   (hv : opsVC false more Γ.P Γ.pk Γ.y Γ.N Γ.fx os [o1] s fun s1 => BX s1 ∧ opsVC false more Γ.P Γ.pk Γ.y Γ.N Γ.fx os [o2] s1 fun s2 => BX s2 ∧ s2.geto x = .pure (.val (.map (some mb))) ∧ s2.geto y = .pure (.val (C.val L[i].1)) ∧ s2.geto z = .lsl k 0 1 ∧ s2.blk k = some (.row sz [L[i].2]) ∧ s2.get Γ.N = .gh (gIx L.length mb i) false ∧ K .normal ((s2.kill k).put Γ.N (.gh (gIx L.length mb (i + 1)) false))) :
   wpAnyHeld F n Γ.P .any ops (HEnd Γ K) (SS C1 (fun w' => w'.heap[mb]? = w.heap[mb]?) p (p + 2)) 3 listed a w := by
 refine held_last (x3 := x3) (x5 := x5) hm hF hpk hG hR h1 h2 h3 hg hd hne hr1 hr2 hr3 hr4 (by rw [ho1]; intro c; simp) (by rw [ho3]; intro c; simp) hC1 hv (by obtain ⟨r, o', h⟩ := hrun; exact ⟨r, _, h, heap_alloc_old _ _ hmb⟩) ?_
 rintro s2 a2 w2 ⟨q1, q2, q3, q4, q5, q6⟩ hR2
 obtain ⟨w3, r1, r2⟩ := hR2.addN hG hval q5 hi hfx q4 q3 ht hok hno
 refine ⟨w3, _, ?_, r2, q6⟩
 have e1 := hR2.ev q1
 have e2 := hR2.ev q2
 simp [execOp, ho3, e1, e2, r1]
theorem execSlice1 {P : Program} {ρ : Operand → Value} {o : Oper} {t e : TypeId} {x : Operand} (ho : o.op = .buildSlice t 1 #[(0, x)]) (ht : P.underlying t = some (.slice e)) (hs : szOf P e = some 2) {u v : Value} (hx : ρ x = .agg #[u, v]) {zv : Value} (hz : ∀ w : World, (zeroValue e).run P w = .ok zv w) {w : World} :
   ∃ r o', (execOp ρ o).run P w = .ok (.value r) (w.alloc o') := by
 refine ⟨.slice (some ⟨w.heap.size, 0, none⟩) 1 1, .cells ((((Array.range 2).map fun x => zv.cells[x % zv.cells.size]!).setIfInBounds 0 u).setIfInBounds 1 v) e, ?_⟩
 simp [execOp, ho, hx, Instr.buildSlice, run_underlying ht, run_sizeOf hs, hz, Instr.fill, newRow, Value.cells]
end
end Go.Avc
/- The contract of a function that makes a map whose slices grow and returns a function that reads it. Conditions: none. -/
namespace Go.Avc
open Go.RowKit
def endGF {α : Type} (g : FuncId) (L : List (α × List PV)) (t N : Nat) (e : Exit) (s : St) : Prop := match e with
 | .normal => ∃ mb k, s.get N = .gh (gIx L.length mb L.length) false ∧ s.get t = .fn g [.loc k 0 0] ∧ s.blk k = some (.box [.pure (.val (.map (some mb)))])
 | .ret => ∃ mb k, s.get N = .gh (gIx L.length mb L.length) false ∧ s.get t = .fn g [.loc k 0 0] ∧ s.blk k = some (.box [.pure (.val (.map (some mb)))])
 | _ => False
theorem PSpec.of_wpGF {α : Type} [DecidableEq α] (C : MKey α) (sz : Nat) (L : List (α × List PV)) (g : FuncId) (hg0 : g < bmB) {t : Nat} {P : Program} {f : FuncId} {fn : Func} {c : Code} {args : List PV} (hf : P.funcs[f]? = some fn) (hb : fn.body = some c)
   (hcall : ∀ (vs : Array Value) (w : World), (callFunc f vs).run P w = .ok (.enter f vs) w) (hl : args.length ≤ fn.ntmps) (hres : fn.results = #[.tmp t])
   (h : ∀ Γ : Ctx, Γ.P = P → Γ.N = fn.ntmps → Γ.fx = [] → Γ.pk = none → GCtx C sz L Γ → Wp Γ Fence.wide 0 c (startGm args Γ.N) (endGF g L t Γ.N)) : PSpec P f args (.fn g [.ptr [.mp ((gks L).map C.val) ((gks L).map fun k => .sl sz (grw L k))]]) := by
 refine ⟨hcall, fun w X vs hgl hsz hv hX => ?_⟩
 refine (callsIn_wide (n := 0)).1 (callsIn_of_wp_marks hf hb trivial ?_)
 let Γ : Ctx := ⟨P, fn.ntmps, w, X, bmOf X, [], gY P C sz w X L, (fun _ b hb => ex_bmOf hb), none, []⟩
 have hs := h Γ rfl rfl rfl rfl ⟨rfl, rfl, rfl, rfl, hX⟩
 have hR : R Γ (startGm args fn.ntmps) { tmps := vs ++ Array.replicate (fn.ntmps - vs.size) undef, defers := [] } w := by
   have hget : ∀ t, (startGm args fn.ntmps).get t = if t = fn.ntmps then .gh 0 false else (startSt args).get t := fun t => by
     simp only [startGm, startSt, St.get, lk_cons]
     by_cases e : fn.ntmps = t
     · rw [if_pos e, if_pos e.symm]; rfl
     · rw [if_neg e, if_neg (Ne.symm e)]
   refine ⟨X, fun _ => none, ?_, fun _ h => h, fun _ _ h => h, fun _ i t hi => ?_, fun _ => rfl, ⟨[], rfl, List.nodup_nil, fun d hd => by cases hd⟩⟩
   · refine
     { size := by show (vs ++ Array.replicate (fn.ntmps - vs.size) undef).size = fn.ntmps; rw [Array.size_append, Array.size_replicate]; omega
       slots := fun t => ?_
       blks := fun k => by simp [St.blk, startGm, lk, BO]
       inj := fun k k' bi bi' hk => by cases hk
       lt := fun k bi hk => by cases hk
       notX := fun k bi hk => by cases hk
       own := fun k bi hk => by cases hk
       fixd := fun k hk => by cases hk
       used1 := fun t k hk => by
         rw [hget] at hk
         split at hk
         · simp [AV.keys] at hk
         · rcases startSt_get args t with e | ⟨p, _, e⟩ <;> rw [e] at hk <;> simp [AV.keys] at hk
       used2 := fun k b hk => by simp [St.blk, startGm, lk] at hk
       keep := Kp.refl _ _
       Xlt := hX
       glob := hgl.mono ⟨Nat.le_refl _, fun b _ hb => ⟨rfl, by
         rintro (hx | ⟨k, bi, hk, _⟩)
         · exact hb hx
         · cases hk⟩⟩ }
     show AR w (Av X fun _ => none) _ _ _
     rw [hget, frame_getD]
     split
     · exact .gh _ _ _
     · rcases startSt_get args t with e | ⟨p, hp, e⟩
       · rw [e]; exact .junk _
       · rw [e]
         refine .pure _ _ ((hv t p hp).mono ⟨Nat.le_refl _, fun b _ hb => ⟨rfl, ?_⟩⟩)
         rintro (hx | ⟨k, bi, hk, _⟩)
         · exact hb hx
         · cases hk
   · have hi' : (startGm args fn.ntmps).get fn.ntmps = .gh i t := hi
     rw [hget, if_pos rfl] at hi'
     cases hi'
     refine ⟨Kp.refl _ _, ?_, fun mb j e _ => by unfold gIx at e; omega⟩
     rintro b ⟨k, bi, hk, _⟩
     cases hk
 refine wpIn_mono (hs _ w hR) ?_
 rintro e a' w' ⟨s', hK | ⟨_, _, hpk, _⟩, hr⟩
 case inr => cases hpk
 have fin : (∃ mb k, s'.get fn.ntmps = .gh (gIx L.length mb L.length) false ∧ s'.get t = .fn g [.loc k 0 0] ∧ s'.blk k = some (.box [.pure (.val (.map (some mb)))])) → LeavesInM Fence.wide 0 P fn a'.tmps (fun e w'' => ∃ v, e = .returned v ∧ PR w'' X (.fn g [.ptr [.mp ((gks L).map C.val) ((gks L).map fun k => .sl sz (grw L k))]]) v ∧ Kp (fun _ => False) w w'') a'.defers .returning w' := by
   rintro ⟨mb, k, h1, h2, h3⟩
   refine hr.leave rfl rfl fun X' β w'' hr' hXX _ hg => ?_
   obtain ⟨j1, j2, j3⟩ : gJ C sz w X L (gIx L.length mb L.length) false X' (Ex β) w'' := hg rfl _ _ h1
   have G : GMap C sz mb (gOld w X) (L.take L.length) none X' (Ex β) w'' := j3 mb L.length rfl (Nat.le_refl _)
   rw [List.take_of_length_le (Nat.le_refl _)] at G
   obtain ⟨bi, hβ, q1, cs, e, fz, q2, q3, q4, q5, q6⟩ := hr'.live h3
   have hlt := hr'.lt k bi hβ q1
   have hnX : ¬ X bi.b := fun hx => hr'.notX k bi hβ q1 (hXX _ hx)
   have hcl : 0 < cs.size := by rw [q4]; exact Nat.one_pos
   have hc0 : cs.getD 0 undef = .map (some mb) := (q6 0 _ rfl).1.val_inv
   have hcell : w''.cell? ⟨bi.b, 0, none⟩ = some (.map (some mb)) := by
     rw [Array.getD_eq_getD_getElem?, Array.getElem?_eq_getElem hcl] at hc0
     simp only [Option.getD_some] at hc0
     simp [World.cell?, q2, Array.getElem?_eq_getElem hcl, hc0]
   obtain ⟨vs, hv2, hvl, hvs⟩ : ∃ vs : Array Value, a'.tmps.getD t undef = .func (.func g) #[] vs ∧ vs.size = 1 ∧ vs.getD 0 undef = .pointer (some ⟨bi.b, 0, none⟩) := by
     have hsl := hr'.slots t
     rw [h2] at hsl
     generalize a'.tmps.getD t undef = u at hsl
     cases hsl with
     | fn _ _ vs hl hp =>
       refine ⟨vs, rfl, hl.1, ?_⟩
       have h0 := hp 0 _ rfl
       generalize vs.getD 0 undef = u0 at h0
       cases h0 with
       | locDead _ _ _ _ hd => rw [hβ] at hd; cases hd
       | loc _ _ _ bi' hb' =>
         rw [hβ] at hb'
         cases hb'
         simp
     | bm _ g' _ _ he _ => exact absurd he (by intro he; exact bm_no hg0 he)
   refine ⟨.func (.func g) #[] vs, by rw [results_eq, hres]; simp [resSem, hv2], _, rfl, ?_, j1⟩
   refine .fn _ _ vs ⟨hvl, hg0⟩ fun j p hj => ?_
   match j, hj with
   | 0, hj =>
     cases hj
     rw [hvs]
     refine .ptr _ _ (fun _ => .map (some mb)) (fun _ => ⟨hlt, hnX⟩) (fun j p hj => ?_) fun j p hj => ?_
     · match j, hj with
       | 0, hj => rw [addr_add]; exact ⟨hcell, rfl⟩
     · match j, hj with
       | 0, hj => cases hj; exact G.pr hX
 cases e with
 | normal => exact fin hK
 | ret => exact fin hK
 | exit id => exact hK.elim
 | goto l => exact hK.elim
 | panic c => exact hK.elim
 | outgrown => exact hK.elim
end Go.Avc
/- Sorting a row of one's own: the contract of slices.SortFunc as a contract with blocks. Conditions: none. -/
namespace Go.Avc
open Go.RowKit
open Go.Shelf (Ren)
open Go.Proofs (CmpLays sortWorldK ltOf)
open Go.Sort (SWO PermIn SortedIn HoldsK flatK putRowK)
def SEl (w : World) (A : Nat → Prop) (k : Nat) {β : Type} (pv : β → List PV) (d : List β) : Type :=
 { a : β × List Value // a.1 ∈ d ∧ a.2.length = k ∧ (∀ v ∈ a.2, v.oneCell' = true) ∧ ∀ (j : Nat) (p : PV), (pv a.1)[j]? = some p → PR w A p (a.2.getD j undef) }
theorem kp_grow {w w' : World} (h : Kp (fun _ => False) w w') : ∃ q os', w' = Sort.grow (w.drewN q) os' := by
 refine ⟨w'.drawn - w.drawn, w'.heap.extract w.heap.size w'.heap.size, ?_⟩
 have hd := h.tape.le
 have hh : w'.heap = w.heap ++ w'.heap.extract w.heap.size w'.heap.size := by
   apply Array.ext_getElem?
   intro b
   by_cases hb : b < w.heap.size
   · rw [h.block b hb (fun e => e), Array.getElem?_append_left hb]
   · have hs := h.size
     rw [Array.getElem?_append_right (by omega)]
     by_cases hb2 : b < w'.heap.size
     · rw [Array.getElem?_extract]; simp; rw [if_pos (by omega)]; congr 1; omega
     · rw [Array.getElem?_eq_none (by omega), Array.getElem?_eq_none (by simp; omega)]
 have e1 := h.os; have e2 := h.tape.eq; have e3 := h.output
 cases w'; cases w
 simp only [Sort.grow, World.drewN] at *
 subst e1 e2 e3
 congr 1
 · omega
theorem getD_rangeL {α : Type} (f : Nat → α) (k j : Nat) (z : α) (h : j < k) : ((List.range k).map f).getD j z = f j := by
 simp [List.getD_eq_getElem?_getD, List.getElem?_map, List.getElem?_range h]
set_option maxHeartbeats 4000000 in
theorem sort_spec {P : Program} {ρ : Ren} (L : Go.Proofs.SlLaysF0.n6 P ρ) {k : Nat} (aE : ∀ w, (Go.isAgg (ρ.t 24)).run P w = .ok true w) (zE : ∀ w, (Go.sizeOf (ρ.t 24)).run P w = .ok k w)
   {β : Type} (pv : β → List PV) (cmp : β → β → Int) (hO : SWO fun x y : β => decide (cmp x y < 0)) (g : FuncId) (d d' : List β)
   (hcmp : ∀ x ∈ d, ∀ y ∈ d, PSpec P g [.agg (pv x), .agg (pv y)] (.int (cmp x y))) (hn : 0 < d.length) (hn2 : d.length < 4611686018427387904)
   (hu : ∀ r : List β, r.Perm d → r.Pairwise (fun x y => ¬ cmp y x < 0) → r = d') (K : Nat) :
   GSpec P (ρ.f 6) 2 ⟨numE 0 [.lsl K 0 d.length, .fn g []], [(K, some (.row k (d.map pv)))], [K]⟩ [K] 0 ⟨[], [(K, some (.row k (d'.map pv)))], [K]⟩ := by
 refine ⟨fun vs w => L.f6.enters rfl vs w, fun w X β0 vs h => ?_⟩
 obtain ⟨bi, hb, hbo⟩ := h.live (k := K) (blk := .row k (d.map pv)) (by simp [St.blk, lk])
 obtain ⟨g1, g2, g3, g4, g5⟩ := hbo
 have hlen : ∀ x ∈ d, (pv x).length = k := fun x hx => by
   obtain ⟨i, hi, rfl⟩ := List.getElem_of_mem hx
   exact g4 i (pv d[i]) (by simp [hi])
 rcases g5 with ⟨_, he⟩ | ⟨hv, cs, e, fz, c1, c2, c3, c4, c5⟩
 · have := congrArg List.length he
   simp at this; subst this; simp at hn
 have h1 : AR w (Av X β0) β0 (.lsl K 0 d.length) (vs.getD 0 undef) := h.slots 0
 have h2 : AR w (Av X β0) β0 (.fn g []) (vs.getD 1 undef) := h.slots 1
 obtain ⟨cap, hs0⟩ : ∃ cap, vs.getD 0 undef = .slice (some ⟨bi.b, 0, none⟩) d.length cap := by
   generalize vs.getD 0 undef = u at h1
   generalize d.length = n at h1 hn ⊢
   cases h1 with
   | lsl _ _ _ bi' cap hb' => rw [hb] at hb'; cases hb'; exact ⟨cap, by simp⟩
   | lslV => omega
   | lslDead _ _ _ _ hb' => rw [hb] at hb'; cases hb'
 have hs1 : vs.getD 1 undef = .func (.func g) #[] #[] := by
   generalize vs.getD 1 undef = u at h2
   generalize hc : ([] : List AV) = cs' at h2
   cases h2 with
   | fn _ _ vs' hl hp =>
     subst hc
     have : vs' = #[] := Array.eq_empty_of_size_eq_zero (by simpa using hl.1)
     rw [this]
   | bm => cases hc
 have hsz : vs.size = 2 := h.size
 have hcs : d.length * k ≤ cs.size := by rw [← c3]; simpa using c4
 have hel : ∀ (i : Nat) (hi : i < d.length), d[i] ∈ d ∧ ((List.range k).map fun j => cs.getD (i * k + j) undef).length = k ∧ (∀ v ∈ (List.range k).map fun j => cs.getD (i * k + j) undef, v.oneCell' = true) ∧
     ∀ (j : Nat) (p : PV), (pv d[i])[j]? = some p → PR w (Av X β0) p (((List.range k).map fun j => cs.getD (i * k + j) undef).getD j undef) := fun i hi => by
   have hr : (d.map pv)[i]? = some (pv d[i]) := by simp [hi]
   have hl := hlen d[i] (List.getElem_mem _)
   refine ⟨List.getElem_mem _, by simp, fun v hv => ?_, fun j p hp => ?_⟩
   · obtain ⟨j, hj, rfl⟩ := List.mem_map.1 hv
     have hj : j < (pv d[i]).length := by rw [hl]; simpa using hj
     exact (c5 i _ j _ hr (List.getElem?_eq_getElem hj)).2
   · have hj : j < k := by rw [← hl]; exact (List.getElem?_eq_some_iff.1 hp).1
     rw [getD_rangeL _ _ _ _ hj]
     exact (c5 i _ j p hr hp).1
 let el : Fin d.length → SEl w (Av X β0) k pv d := fun i => ⟨(d[i.1], (List.range k).map fun j => cs.getD (i.1 * k + j) undef), hel i.1 i.2⟩
 haveI : Inhabited (SEl w (Av X β0) k pv d) := ⟨el ⟨0, hn⟩⟩
 let enc : SEl w (Av X β0) k pv d → List Value := fun a => a.1.2
 obtain ⟨darr, hda⟩ : ∃ darr : Array (SEl w (Av X β0) k pv d), darr = Array.ofFn el := ⟨_, rfl⟩
 have hds : darr.size = d.length := by rw [hda]; simp
 have hdg : ∀ (i : Nat) (hi : i < d.length), darr[i]! = el ⟨i, hi⟩ := fun i hi => by rw [getElem!_pos darr i (by omega)]; simp [hda]
 have hblk : bi.b < w.heap.size := h.lt K bi hb hv
 have hH : HoldsK enc k w bi.b 0 darr := fun j hj => by
   rw [Sort.size_flatK, hds] at hj
   have hi : j / k < d.length := (Nat.div_lt_iff_lt_mul g2).2 hj
   rw [Sort.get_flatK _ _ _ _ (by rw [hds]; exact hj), hdg _ hi, Nat.zero_add]
   have hjm : j % k < k := Nat.mod_lt _ g2
   have e1 : ((enc (el ⟨j / k, hi⟩))[j % k]! : Value) = cs.getD j undef := by
     show ((List.range k).map fun x => cs.getD (j / k * k + x) undef)[j % k]! = _
     rw [getElem!_pos _ _ (by simpa using hjm)]
     simp only [List.getElem_map, List.getElem_range]
     rw [Nat.mul_comm, Nat.div_add_mod]
   refine ⟨(getD_cell c1 (by omega)).trans (by rw [id, e1]), ?_⟩
   have := c2 j (by omega)
   simp only [World.frozen?, c1]
   simpa using this
 have heap1 : ∀ (W : World) (F : Array Value) (b : Nat), b ≠ bi.b → (Sort.putRow id W bi.b 0 F).heap[b]? = W.heap[b]? := fun W F b hne => by
   simp only [Sort.putRow, Sort.mapBlock, Array.getElem?_modify, if_neg (Ne.symm hne)]
 have hav : Av X β0 bi.b := .inr ⟨K, bi, hb, hv, rfl⟩
 have hcl : CmpLays P g #[] enc k (fun a b => cmp a.1.1 b.1.1) bi.b 0 darr.size w := fun m os dk hs x y => by
   have had : Ad w (Av X β0) (sortWorldK enc k w bi.b 0 m dk os) (fun _ => False) := by
     refine ⟨by unfold sortWorldK putRowK; rw [Sort.size_grow, Sort.size_putRow]; exact Nat.le_add_right _ _, fun b hlt hA => ⟨?_, fun h => h⟩⟩
     have hne : b ≠ bi.b := fun e => hA (e ▸ hav)
     unfold sortWorldK putRowK
     rw [Sort.heap_grow_old _ _ (by rw [Sort.size_putRow]; exact hlt), heap1 _ _ _ hne]
     rfl
   have hc := (hcmp x.1.1 x.2.1 y.1.1 y.2.1).2 (sortWorldK enc k w bi.b 0 m dk os) (fun _ => False) #[.agg (enc x).toArray, .agg (enc y).toArray] (h.glob.mono had) rfl (fun j p hj => by
     have agg : ∀ z : SEl w (Av X β0) k pv d, PR (sortWorldK enc k w bi.b 0 m dk os) (fun _ => False) (.agg (pv z.1.1)) (.agg (enc z).toArray) := fun z => by
       refine .agg _ _ (by simp [enc, z.2.2.1, hlen _ z.2.1]) fun j p hp => ?_
       have := (z.2.2.2.2 j p hp).mono had
       simpa [Array.getD_eq_getD_getElem?, enc, List.getD_eq_getElem?_getD] using this
     match j, hj with
     | 0, hj => cases hj; exact agg x
     | 1, hj => cases hj; exact agg y) (fun b hb => hb.elim)
   show Calls P g (#[.agg (enc x).toArray, .agg (enc y).toArray] ++ #[]) _ _
   rw [Array.append_empty]
   refine hc.mono ?_
   rintro e w' ⟨v, rfl, hv, hk⟩
   cases hv
   exact ⟨rfl, kp_grow hk⟩
 have hcon := Go.Proofs.AnyQ.slices_SortFunc L k aE zE enc (fun a => a.2.2.1) (fun a v hv => a.2.2.2.1 v hv) (fun a b => cmp a.1.1 b.1.1)
   ⟨fun x => hO.irrefl x.1.1, fun x y z => hO.trans x.1.1 y.1.1 z.1.1, fun x y z => hO.ntrans x.1.1 y.1.1 z.1.1⟩ g #[] bi.b 0 cap darr w
   (fun a w => (hcmp _ (List.getElem_mem hn) _ (List.getElem_mem hn)).1 a w) hcl hH hblk (by omega)
 have hvs : vs = #[.slice (some ⟨bi.b, 0, none⟩) darr.size cap, .func (.func g) #[] #[]] := by
   rw [hds]
   obtain ⟨l⟩ := vs
   match l, hsz with
   | [a, b], _ =>
     simp at hs0 hs1
     rw [hs0, hs1]
 rw [hvs]
 refine hcon.mono ?_
 rintro e' w' ⟨rfl, d2, n, os, hpm, hso, rfl⟩
 obtain ⟨p1, _, p3⟩ := hpm
 have hr : d2.toList.map (fun a => a.1.1) = d' := by
   refine hu _ ?_ ?_
   · have e1 : darr.toList.map (fun a => a.1.1) = d := by
       apply List.ext_getElem
       · simp [hds]
       · intro i h1 h2
         have hi : i < d.length := by simpa [hds] using h1
         have := hdg i hi
         rw [getElem!_pos darr i (by omega)] at this
         simp only [List.getElem_map, Array.getElem_toList]
         rw [this]
     have e2 : ∀ (z : Array (SEl w (Av X β0) k pv d)), z.size = darr.size → z.extract 0 darr.size = z := fun z hz => by rw [← hz]; simp
     rw [e2 _ p1, e2 _ rfl] at p3
     have p4 := p3.map (fun a => a.1.1)
     rw [e1] at p4
     exact p4
   · rw [List.pairwise_iff_getElem]
     intro i j hi hj hij
     simp only [List.length_map, Array.length_toList] at hi hj
     have := hso i j (Nat.zero_le _) hij (by omega)
     rw [getElem!_pos d2 i hi, getElem!_pos d2 j hj] at this
     simpa [ltOf] using this
 have hd2 : d2.size = d.length := p1.trans hds
 have hh1 : (putRowK enc k (Sort.ahead w n) bi.b 0 d2).heap[bi.b]? = some (.cells (Sort.putCells id 0 (flatK enc k d2) cs) e fz) := by
   simp only [putRowK, Sort.putRow, Sort.mapBlock, Array.getElem?_modify, if_true]
   show Option.map _ w.heap[bi.b]? = _
   rw [c1]; rfl
 have hcz : (Sort.putCells id 0 (flatK enc k d2) cs).size = cs.size := by simp [Sort.putCells]
 have hup := h.upd (w' := putRowK enc k (Sort.ahead w n) bi.b 0 d2) hb hv (by unfold putRowK; rw [Sort.size_putRow]; rfl) (fun b hne => heap1 _ _ _ hne) rfl ⟨rfl, Nat.le_add_right _ _⟩ rfl (blk := .row k (d'.map pv)) (by simp [Blk.keys]) fun had =>
   ⟨g1, g2, by rw [← g3, ← hr]; simp [hd2], fun i row hi => by
     rw [List.getElem?_map, Option.map_eq_some_iff] at hi
     obtain ⟨x, hx, rfl⟩ := hi
     rw [← hr, List.getElem?_map, Option.map_eq_some_iff] at hx
     obtain ⟨a, _, rfl⟩ := hx
     exact hlen _ a.2.1, .inr ⟨hv, _, e, fz, hh1, fun j hj => c2 j (by omega), c3.trans hcz.symm, by rw [c3]; rw [← hr]; simpa [hd2] using hcs, fun i row j p hi hp => by
     rw [List.getElem?_map, Option.map_eq_some_iff] at hi
     obtain ⟨x, hx, rfl⟩ := hi
     rw [← hr, List.getElem?_map, Option.map_eq_some_iff] at hx
     obtain ⟨a, ha, rfl⟩ := hx
     have hi2 : i < d2.size := by simpa using (List.getElem?_eq_some_iff.1 ha).1
     have ha2 : d2[i]! = a := by
       rw [getElem!_pos d2 i hi2]
       simpa using (List.getElem?_eq_some_iff.1 ha).2
     have hj : j < k := by rw [← hlen _ a.2.1]; exact (List.getElem?_eq_some_iff.1 hp).1
     have hx : i * k + j < d2.size * k := by
       have := Nat.mul_le_mul_right k (show i + 1 ≤ d2.size from hi2)
       rw [Nat.add_mul, Nat.one_mul] at this; omega
     have hval : (Sort.putCells id 0 (flatK enc k d2) cs).getD (i * k + j) undef = a.1.2.getD j undef := by
       have q1 : (i * k + j) / k = i := by rw [Nat.mul_comm, Nat.mul_add_div g2, Nat.div_eq_of_lt hj]; omega
       have q2 : (i * k + j) % k = j := by rw [Nat.mul_comm, Nat.mul_add_mod]; exact Nat.mod_eq_of_lt hj
       rw [Array.getD_eq_getD_getElem?]
       have hx3 : i * k + j < cs.size := by rw [hd2] at hx; omega
       simp only [Sort.putCells, Array.getElem?_mapIdx, Array.getElem?_eq_getElem hx3, Option.map_some, Option.getD_some]
       rw [if_pos ⟨Nat.zero_le _, by rw [Sort.size_flatK]; omega⟩, Nat.sub_zero, id, Sort.get_flatK _ _ _ _ hx, q1, q2, ha2]
       rw [getElem!_pos (enc a) j (show j < (enc a).length by rw [show (enc a).length = k from a.2.2.1]; exact hj)]
       simp [enc, List.getD_eq_getElem?_getD, a.2.2.1, hj]
     rw [hval]
     refine ⟨(a.2.2.2.2 j p hp).mono had, a.2.2.2.1 _ ?_⟩
     rw [List.getD_eq_getElem?_getD, List.getElem?_eq_getElem (by rw [a.2.2.1]; exact hj)]
     exact List.getElem_mem _⟩⟩
 have hsz1 : (putRowK enc k (Sort.ahead w n) bi.b 0 d2).heap.size = w.heap.size := by unfold putRowK; rw [Sort.size_putRow]; rfl
 have hx := hup.ext (w' := sortWorldK enc k w bi.b 0 n d2 os) ⟨rfl, ⟨rfl, Nat.le_refl _⟩, rfl, by unfold sortWorldK; rw [Sort.size_grow]; exact Nat.le_add_right _ _, fun b hlt _ => by unfold sortWorldK; rw [Sort.heap_grow_old _ _ hlt]⟩
 have hbe : ∀ j, St.blk ⟨[], [(K, some (.row k (d'.map pv)))], [K]⟩ j = (St.set ⟨numE 0 [.lsl K 0 d.length, .fn g []], [(K, some (.row k (d.map pv)))], [K]⟩ K (.row k (d'.map pv))).blk j := fun j => by
   simp only [St.blk, St.set, lk_cons]
   by_cases e : K = j
   · simp [e]
   · simp [e, lk]
 refine ⟨#[], β0, by simp, ?_⟩
 exact
 { size := rfl
   slots := fun t => .junk _
   blks := fun j => by rw [hbe]; exact hx.blks j
   inj := hx.inj
   lt := hx.lt
   notX := hx.notX
   own := hx.own
   fixd := hx.fixd
   used1 := fun t j hj => by simp [St.get, lk, AV.keys] at hj
   used2 := fun j b hj => by rw [hbe] at hj; exact hx.used2 j b hj
   keep := hx.keep
   Xlt := hx.Xlt
   glob := hx.glob }
end Go.Avc
/- slices.SortFunc at pairs: what the program bears (written by lay-plain.mjs). Conditions: none. -/
namespace Go.Proofs
open Go.Shelf
def Try.sortDf_ren : Go.Shelf.Ren := ⟨fun | 6 => 48 | 15 => 58 | 14 => 57 | 28 => 76 | 29 => 77 | 20 => 68 | 21 => 69 | 22 => 70 | 23 => 71 | 24 => 72 | 25 => 73 | 26 => 74 | 27 => 75 | 46 => 78 | 47 => 79 | 48 => 80 | 49 => 81 | 50 => 82 | 57 => 83 | n => n, fun | 22 => 94 | 24 => 95 | 25 => 104 | 3 => 3 | 39 => 46 | 0 => 0 | 53 => 125 | 55 => 127 | 4 => 4 | 46 => 118 | 45 => 117 | 50 => 122 | 5 => 5 | 9 => 9 | 66 => 129 | 70 => 133 | 76 => 135 | 77 => 73 | n => n, fun | n => n⟩
theorem Try.sortDf : Go.Proofs.SlLaysF0.n6 Try.prog Try.sortDf_ren := {
 mixed := by kernel_rfl
 f6 := ⟨Try.f48.name, by decide, Try.func48.trans (congrArg some (by kernel_rfl))⟩
 f14 := ⟨Try.f57.name, by decide, Try.func57.trans (congrArg some (by kernel_rfl))⟩
 f15 := Try.func58.trans (congrArg some (by kernel_rfl))
 f20 := ⟨Try.f68.name, by decide, Try.func68.trans (congrArg some (by kernel_rfl))⟩
 f21 := ⟨Try.f69.name, by decide, Try.func69.trans (congrArg some (by kernel_rfl))⟩
 f22 := ⟨Try.f70.name, by decide, Try.func70.trans (congrArg some (by kernel_rfl))⟩
 f23 := ⟨Try.f71.name, by decide, Try.func71.trans (congrArg some (by kernel_rfl))⟩
 f24 := ⟨Try.f72.name, by decide, Try.func72.trans (congrArg some (by kernel_rfl))⟩
 f25 := ⟨Try.f73.name, by decide, Try.func73.trans (congrArg some (by kernel_rfl))⟩
 f26 := ⟨Try.f74.name, by decide, Try.func74.trans (congrArg some (by kernel_rfl))⟩
 f27 := ⟨Try.f75.name, by decide, Try.func75.trans (congrArg some (by kernel_rfl))⟩
 f28 := Try.func76.trans (congrArg some (by kernel_rfl))
 f29 := Try.func77.trans (congrArg some (by kernel_rfl))
 f46 := ⟨Try.f78.name, by decide, Try.func78.trans (congrArg some (by kernel_rfl))⟩
 f47 := Try.func79.trans (congrArg some (by kernel_rfl))
 f48 := Try.func80.trans (congrArg some (by kernel_rfl))
 f49 := ⟨Try.f81.name, by decide, Try.func81.trans (congrArg some (by kernel_rfl))⟩
 f50 := ⟨Try.f82.name, by decide, Try.func82.trans (congrArg some (by kernel_rfl))⟩
 f57 := ⟨Try.f83.name, by decide, Try.func83.trans (congrArg some (by kernel_rfl))⟩
 t0 := Try.underlying0
 a0 := Try.isAgg0
 z0 := Try.sizeOf0
 v0 := Try.zeroValue0
 t3 := Try.underlying3
 a3 := Try.isAgg3
 z3 := Try.sizeOf3
 v3 := Try.zeroValue3
 t4 := Try.underlying4
 a4 := Try.isAgg4
 z4 := Try.sizeOf4
 v4 := Try.zeroValue4
 t5 := Try.underlying5
 a5 := Try.isAgg5
 z5 := Try.sizeOf5
 v5 := Try.zeroValue5
 t9 := Try.underlying9
 a9 := Try.isAgg9
 z9 := Try.sizeOf9
 v9 := Try.zeroValue9
 t22 := Try.underlying94
 a22 := Try.isAgg94
 z22 := Try.sizeOf94
 v22 := Try.zeroValue94
 t25 := Try.underlying104
 a25 := Try.isAgg104
 z25 := Try.sizeOf104
 v25 := Try.zeroValue104
 t39 := Try.underlying46
 a39 := Try.isAgg46
 z39 := Try.sizeOf46
 v39 := Try.zeroValue46
 t45 := Try.underlying117
 a45 := Try.isAgg117
 z45 := Try.sizeOf117
 v45 := Try.zeroValue117
 t46 := Try.underlying118
 a46 := Try.isAgg118
 z46 := Try.sizeOf118
 v46 := Try.zeroValue118
 t50 := Try.underlying122
 a50 := Try.isAgg122
 z50 := Try.sizeOf122
 v50 := Try.zeroValue122
 t53 := Try.underlying125
 a53 := Try.isAgg125
 z53 := Try.sizeOf125
 v53 := Try.zeroValue125
 t55 := Try.underlying127
 a55 := Try.isAgg127
 z55 := Try.sizeOf127
 v55 := Try.zeroValue127
 t66 := Try.underlying129
 a66 := Try.isAgg129
 z66 := Try.sizeOf129
 v66 := Try.zeroValue129
 t70 := Try.underlying133
 a70 := Try.isAgg133
 z70 := Try.sizeOf133
 v70 := Try.zeroValue133
 t76 := Try.underlying135
 a76 := Try.isAgg135
 z76 := Try.sizeOf135
 v76 := Try.zeroValue135
 t77 := Try.underlying73
 a77 := Try.isAgg73
 z77 := Try.sizeOf73
 v77 := Try.zeroValue73 }
end Go.Proofs
/- A loop over a function whose state is one of a family. Conditions: none. -/
namespace Go.Avc
open Go.RowKit
def roundEndQ (K : Exit → St → Prop) (env : List (Nat × AV)) (Γ : Ctx) {σ : Type} (B : σ → Nat → List (Nat × Option Blk)) (U : σ → Nat → List Nat) (ok : σ → Nat → Prop) (i : Nat) (e : Exit) (s : St) : Prop := match e with
 | .normal => ∃ q, Both (Le Γ ⟨[], s.blks, s.used⟩ ⟨[], B q i, U q i⟩) (ok q i)
 | .ret => subB (keysE env) s.used = true ∧ K .ret ⟨env, s.blks, s.used⟩
 | .exit id => subB (keysE env) s.used = true ∧ K (.exit id) ⟨env, s.blks, s.used⟩
 | _ => False
section
variable {Γ : Ctx} {env : List (Nat × AV)} {fx' : List Nat} {w : World} {X : Nat → Prop} {β : BM} {tm : Array Value} {D l : Nat} {σ : Type} {B : σ → Nat → List (Nat × Option Blk)} {U : σ → Nat → List Nat} {ok : σ → Nat → Prop} {rec : LoopState → Option Code → Loop} {K : Exit → St → Prop}
def SideQ (Γ : Ctx) (fx' : List Nat) (w : World) (X : Nat → Prop) (β : BM) (D l : Nat) (rec : LoopState → Option Code → Loop) (env : List (Nat × AV)) {σ : Type} (B : σ → Nat → List (Nat × Option Blk)) (U : σ → Nat → List Nat) (ok : σ → Nat → Prop) (K : Exit → St → Prop) (tm : Array Value)
   (i : Nat) (t : Bool) (Xc E : Nat → Prop) (W : World) : Prop := ∃ β', match t with
   | false => ∃ q, ok q i ∧ Side Γ fx' w X β D l ⟨env, B q i, U q i⟩ tm Xc E W β' ∧ W.heap[l]? = some (.loop (rec .ready none))
   | true => ∃ (c : Code) (e : Exit) (s2 : St), ((c = Code.ret ∧ e = Exit.ret) ∨ ∃ id, c = Code.exit id ∧ e = Exit.exit id) ∧ K e ⟨env, s2.blks, s2.used⟩ ∧ Side Γ fx' w X β D l ⟨env, s2.blks, s2.used⟩ tm Xc E W β' ∧ W.heap[l]? = some (.loop (rec .done (some c)))
theorem SideQ.stable (hD : D = w.heap.size) (hl : l = w.heap.size + 1) (hX : ∀ b, X b → b < w.heap.size) {i : Nat} {t : Bool} {Xc E E' : Nat → Prop} {W W' : World} (hJ : SideQ Γ fx' w X β D l rec env B U ok K tm i t Xc E W) (hk : Kp E W W') (hE : ∀ b, E' b → (E b ∨ W.heap.size ≤ b) ∧ b < W'.heap.size) :
   SideQ Γ fx' w X β D l rec env B U ok K tm i t Xc E' W' := by
 obtain ⟨β', hJ⟩ := hJ
 cases t with
 | false =>
   obtain ⟨q, ho, hs, hl'⟩ := hJ
   obtain ⟨g1, g2⟩ := hs.stable hD hl hX hk hE
   exact ⟨β', q, ho, g1, g2.trans hl'⟩
 | true =>
   obtain ⟨c, e, s2, hc, hKe, hs, hl'⟩ := hJ
   obtain ⟨g1, g2⟩ := hs.stable hD hl hX hk hE
   exact ⟨β', c, e, s2, hc, hKe, g1, g2.trans hl'⟩
theorem SideQ.round {ps : Array Tmp} {assign body : Code} {fn : FuncId} {xs : List (List PV)} (hD : D = w.heap.size) (hl : l = w.heap.size + 1) (hX : ∀ b, X b → b < w.heap.size) (k2 : ∀ k ∈ keysE env, k ∈ fx') (k3 : ∀ q i, ∀ k ∈ fx', k ∈ U q i)
   (c4 : allLt Γ.N ps.toList = true) (c5 : ∀ (i : Nat) (row : List PV), xs[i]? = some row → row.length = ps.size)
   (hr1 : (rec .ready none).fn = fn) (hr2 : (rec .ready none).tmps = tm) (hr3 : (rec .ready none).params = ps) (hr4 : (rec .ready none).assign = assign) (hr5 : (rec .ready none).body = body) (hr6 : (rec .ready none).state = .ready)
   (hr7 : ∀ jump : Option Code, some (Obj.loop { ({ rec .ready none with state := .busy } : Loop) with state := if jump.isNone then .ready else .done, pending := jump }) = some (.loop (rec (if jump.isNone then .ready else .done) jump)))
   (hround : ∀ Γ1 : Ctx, Γ1.P = Γ.P → Γ1.N = Γ.N → Γ1.fx = fx' → Γ1.y.on = false → Γ1.pk = none → ∀ (l i : Nat) (row : List PV), xs[i]? = some row → ∀ q, ok q i →
     Wp Γ1 (Fence.wide.inRound l) 0 assign (paramsSt ps.toList row ⟨env, B q i, U q i⟩) (normalK fun s1 =>
       ∀ Γ2 : Ctx, Γ2.P = Γ.P → Γ2.N = Γ.N → Γ2.fx = fx' → Γ2.y.on = false → Γ2.pk = none → Wp Γ2 (Fence.wide.inRound l) 0 body s1 (roundEndQ K env Γ2 B U ok (i + 1))))
   {i : Nat} {row : List PV} {Xc E : Nat → Prop} {W : World} {args : Array Value} (hrow : xs[i]? = some row) (hJ : SideQ Γ fx' w X β D l rec env B U ok K tm i false Xc E W) (hsz : args.size = row.length)
   (hpr : ∀ (j : Nat) (p : PV), row[j]? = some p → PR W (fun b => Xc b ∨ E b) p (args.getD j undef)) :
   YieldAt Fence.wide 0 Γ.P l args W fun e W' => ∃ t, e = .returned (.bool !t) ∧ SideQ Γ fx' w X β D l rec env B U ok K tm (i + 1) t (fun b => Xc b ∨ (W.heap.size ≤ b ∧ b < W'.heap.size)) E W' ∧ Kp Xc W W' := by
 obtain ⟨β', q, ho, hs, hl'⟩ := hJ
 have hcard := c5 i row hrow
 have hrun := run_yield (P := Γ.P) (args := args) hl' (by rw [hr3]; omega)
 rw [hr1, hr2, hr3, hr4, hr5] at hrun
 refine ⟨fn, _, assign, body, hrun, roundIn_of_wpIn (F := Fence.wide) trivial ?_⟩
 have hlW : l < W.heap.size := by have := hs.sz; omega
 let Γ1 : Ctx := Ctx.inRd Γ.P Γ.N W (fun b => X b ∨ b = D ∨ b = l ∨ E b) β' fx'
 have r1 : Rl (Γ1.atX Γ1.X) ⟨env, B q i, U q i⟩ tm W β' := { hs.rl with own := fun k bi hb hv => .inr ⟨k, bi, hb, hv, rfl⟩, fixd := fun _ _ => rfl, keep := Kp.refl _ _ }
 have r2 : Rl (Γ1.atX Γ1.X) (paramsSt ps.toList row ⟨env, B q i, U q i⟩) ((ps.zip args).foldl (fun tmps (t, a) => tmps.setIfInBounds t a) tm) W β' := by
   have := paramsRl (ts := ps.toList) (row := row) (us := args.toList) r1 c4 (by simp; omega) (fun j p hj => by
     have := hpr j p hj
     have e : args.toList.getD j undef = args.getD j undef := by simp [List.getD, Array.getD_eq_getD_getElem?]
     rw [e]
     refine this.mono ⟨Nat.le_refl _, fun b _ hn => ⟨rfl, fun hA => hn ?_⟩⟩
     rcases hA with (hA | hA | hA | hA) | ⟨k, bi, hk, hv, rfl⟩
     · exact .inl (hs.xc b (.inl hA))
     · exact .inl (hs.xc b (.inr (.inl hA)))
     · exact .inl (hs.xc b (.inr (.inr hA)))
     · exact .inr hA
     · exact .inl (hs.live k bi hk hv))
   rw [← Array.foldl_toList, Array.toList_zip]
   exact this
 have hR1 : R Γ1 (paramsSt ps.toList row ⟨env, B q i, U q i⟩) { tmps := (ps.zip args).foldl (fun tmps (t, a) => tmps.setIfInBounds t a) tm, defers := [] } W :=
   ⟨Γ1.X, β', r2, fun _ h => h, fun _ _ h => h, (fun h => by cases h), (fun h => by cases h), ⟨[], rfl, List.nodup_nil, fun d hd => by cases hd⟩⟩
 refine wpIn_mono (hround Γ1 rfl rfl rfl rfl rfl l i row hrow q ho _ W hR1) ?_
 rintro e a1 w1 ⟨s1, hK1 | ⟨_, _, hpk, _⟩, X1, β1, h1, g1⟩
 case inr => cases hpk
 cases e with
 | normal =>
   have hlX1 : X1 l := g1.sub l (.inr (.inr (.inl rfl)))
   have hl1 : w1.heap[l]? = some (.loop (rec .ready none)) := (h1.keep.block l hlW (by rintro ⟨k, bi, hk, hv, e⟩; exact hs.rl.notX k bi hk hv (.inr (.inr (.inl e))))).trans hl'
   have hlt1 : l < w1.heap.size := (Array.getElem?_eq_some_iff.1 hl1).1
   refine ⟨_, run_beginRound hl1 hr6, ?_⟩
   generalize hw2 : w1.putObj l (.loop { rec .ready none with state := .busy }) = w2
   have hl2 : w2.heap[l]? = some (.loop { rec .ready none with state := .busy }) := by rw [← hw2]; exact World.putObj_heap_same hlt1
   have hkp2 : Kp (fun b => b = l) w1 w2 := by rw [← hw2]; exact kp_putObj _ _ rfl
   have r3 := Rl.turn (X' := X1) h1 hkp2 (fun b hb => by rw [hb]; exact hlX1) (fun b _ hb => hb) (fun b hb => Nat.lt_of_lt_of_le (h1.Xlt b hb) hkp2.size)
   let Γ2 : Ctx := Ctx.inRd Γ.P Γ.N w2 X1 β1 fx'
   have hR2 : R Γ2 s1 a1 w2 := ⟨X1, β1, r3, fun _ h => h, fun _ _ h => h, (fun h => by cases h), (fun h => by cases h), by
     obtain ⟨mk, m1, m2, m3⟩ := g1.marks
     refine ⟨mk, m1, m2, fun d hd => ?_⟩
     obtain ⟨D', d1, d2, d3, d4⟩ := m3 d hd
     refine ⟨D', d1, (hkp2.block D' (Array.getElem?_eq_some_iff.1 d2).1 ?_).trans d2, (fun h => by cases h), d4⟩
     rintro rfl
     rw [hl1] at d2; cases d2⟩
   refine wpIn_mono (hK1 Γ2 rfl rfl rfl rfl rfl a1 w2 hR2) ?_
   rintro e a2 w3 ⟨s2, hK2 | ⟨_, _, hpk, _⟩, hR3⟩
   case inr => cases hpk
   have hl3 : w3.heap[l]? = some (.loop { rec .ready none with state := .busy }) := by
     obtain ⟨X3, β3, h3, g3⟩ := hR3
     exact (h3.keep.block l (Array.getElem?_eq_some_iff.1 hl2).1 (by rintro ⟨k, bi, hk, hv, e⟩; exact h1.notX k bi hk hv (e ▸ hlX1))).trans hl2
   have hlt3 : l < w3.heap.size := (Array.getElem?_eq_some_iff.1 hl3).1
   have fin : ∀ (jump : Option Code) (s3 : St), R Γ2 s3 a2 w3 → (∀ k ∈ keysE env, k ∈ s3.used) → ∃ v w', (Instr.endRound l jump).run Γ.P w3 = .ok v w' ∧ v = .bool jump.isNone ∧
       w'.heap[l]? = some (.loop (rec (if jump.isNone then .ready else .done) jump)) ∧ ∃ β4, Side Γ fx' w X β D l ⟨env, s3.blks, s3.used⟩ tm (fun b => Xc b ∨ (W.heap.size ≤ b ∧ b < w'.heap.size)) E w' β4 ∧ Kp Xc W w' := fun jump s3 hR3 hsu => by
     refine ⟨_, _, run_endRound jump hl3, rfl, ?_, ?_⟩
     · rw [World.putObj_heap_same hlt3]; exact hr7 jump
     · exact hs.after rfl hD hl hX k2 h1 (fun b hb => g1.sub b hb) _ hw2.symm hR3 hsu rfl
   cases e with
   | normal =>
     obtain ⟨q', hK2⟩ := hK2
     obtain ⟨v, w', q1, q2, q3, β4, q4, q5⟩ := fin none ⟨[], B q' (i + 1), U q' (i + 1)⟩ (hK2.1 _ _ hR3.noenv) (fun k hk => k3 _ _ k (k2 k hk))
     exact ⟨v, w', q1, false, by rw [q2]; rfl, ⟨β4, q', hK2.2, q4, q3⟩, q5⟩
   | ret =>
     obtain ⟨v, w', q1, q2, q3, β4, q4, q5⟩ := fin (some .ret) s2 hR3 (subB_spec hK2.1)
     exact ⟨v, w', q1, true, by rw [q2]; rfl, ⟨β4, .ret, .ret, s2, .inl ⟨rfl, rfl⟩, hK2.2, q4, q3⟩, q5⟩
   | exit id =>
     obtain ⟨v, w', q1, q2, q3, β4, q4, q5⟩ := fin (some (.exit id)) s2 hR3 (subB_spec hK2.1)
     exact ⟨v, w', q1, true, by rw [q2]; rfl, ⟨β4, .exit id, .exit id, s2, .inr ⟨id, rfl, rfl⟩, hK2.2, q4, q3⟩, q5⟩
   | goto t => exact hK2.elim
   | panic ch => exact hK2.elim
   | outgrown => exact hK2.elim
 | ret => exact hK1.elim
 | exit id => exact hK1.elim
 | goto t => exact hK1.elim
 | panic ch => exact hK1.elim
 | outgrown => exact hK1.elim
end
set_option maxHeartbeats 400000 in
theorem Wp.rangeFuncQ {Γ : Ctx} {n : Nat} {g : Operand} {ps : Array Tmp} {assign body : Code} {s : St} {K : Exit → St → Prop} {f : FuncId} {caps : List PV} {xs : List (List PV)} (hI : ISpec Γ.P f caps xs)
   {σ : Type} (env : List (Nat × AV)) (B : σ → Nat → List (Nat × Option Blk)) (U : σ → Nat → List Nat) (fx' : List Nat) (ok : σ → Nat → Prop) (q0 : σ) (h0 : Le Γ s ⟨env, B q0 0, U q0 0⟩) (hg : St.geto ⟨env, B q0 0, U q0 0⟩ g = .pure (.fn f caps)) (hoff : Γ.y.on = false) (ok0 : ok q0 0)
   (c1 : subB Γ.fx fx' = true) (c2 : subB (keysE env) fx' = true) (c3 : ∀ q i, subB fx' (U q i) = true) (c4 : allLt Γ.N ps.toList = true) (c5 : ∀ (i : Nat) (row : List PV), xs[i]? = some row → row.length = ps.size)
   (hround : ∀ Γ1 : Ctx, Γ1.P = Γ.P → Γ1.N = Γ.N → Γ1.fx = fx' → Γ1.y.on = false → Γ1.pk = none → ∀ (l i : Nat) (row : List PV), xs[i]? = some row → ∀ q, ok q i →
     Wp Γ1 (Fence.wide.inRound l) 0 assign (paramsSt ps.toList row ⟨env, B q i, U q i⟩) (normalK fun s1 =>
       ∀ Γ2 : Ctx, Γ2.P = Γ.P → Γ2.N = Γ.N → Γ2.fx = fx' → Γ2.y.on = false → Γ2.pk = none → Wp Γ2 (Fence.wide.inRound l) 0 body s1 (roundEndQ K env Γ2 B U ok (i + 1))))
   (hdone : ∀ q, ok q xs.length → K .normal ⟨env, B q xs.length, U q xs.length⟩) : Wp Γ Fence.wide n (.rangeFunc g ps assign body) s K := by
 intro a w hR
 have k2 := subB_spec c2
 have k3 := fun q i => subB_spec (c3 q i)
 obtain ⟨X, β, h, gh⟩ := h0 a w hR
 have hX : ∀ b, X b → b < w.heap.size := h.Xlt
 refine wpIn_rangeFunc fun fn hfn => ?_
 obtain ⟨D, hD⟩ : ∃ D, D = w.heap.size := ⟨_, rfl⟩
 obtain ⟨l, hl⟩ : ∃ l, l = w.heap.size + 1 := ⟨_, rfl⟩
 obtain ⟨rec, hrec⟩ : ∃ rec : LoopState → Option Code → Loop, rec = fun st pe => { state := st, pending := pe, fn, tmps := a.tmps, params := ps, assign, body, defers := w.heap.size } := ⟨_, rfl⟩
 obtain ⟨W1, hW1⟩ : ∃ W1, (w.alloc (.deferred (some []))).alloc (.loop (rec .ready none)) = W1 := ⟨_, rfl⟩
 have hsz1 : W1.heap.size = w.heap.size + 2 := by rw [← hW1]; simp
 have hL1 : W1.heap[l]? = some (.loop (rec .ready none)) := by
   rw [← hW1, hl]; have := World.alloc_heap_new (w.alloc (.deferred (some []))) (.loop (rec .ready none)); rwa [World.size_alloc] at this
 have hold : ∀ b, b < w.heap.size + 1 → W1.heap[b]? = (w.alloc (.deferred (some []))).heap[b]? := fun b hb => by rw [← hW1]; exact heap_alloc_old _ _ (by simpa using hb)
 have hD1 : W1.heap[D]? = some (.deferred (some [])) := by rw [hold D (by omega), hD]; exact World.alloc_heap_new w _
 have hkp1 : Kp (fun _ => False) w W1 := ⟨by rw [← hW1]; rfl, by rw [← hW1]; exact tpr, by rw [← hW1]; rfl, by omega, fun b hb _ => by rw [hold b (by omega), heap_alloc_old _ _ hb]⟩
 have hPR : PR w (Av X β) (.fn f caps) (a.eval g) := by
   have := geto_AR h g
   rw [hg] at this
   cases this with
   | pure _ _ hp => exact hp
 -- where no round has been
 have rlE : Rl (Ctx.plain Γ.P Γ.N w (fun b => X b ∨ b = D ∨ b = l ∨ False) β fx') ⟨env, B q0 0, U q0 0⟩ a.tmps W1 β := by
   have h1 : Rl ((Ctx.plain Γ.P Γ.N w X β fx').atX X) ⟨env, B q0 0, U q0 0⟩ a.tmps w β := { h with own := fun k bi hb hv => .inr ⟨k, bi, hb, hv, rfl⟩, fixd := fun _ _ => rfl, keep := Kp.refl _ _ }
   refine h1.others hkp1 (fun b hb => hb.elim) (fun b _ hb => hb.elim) (fun b hb hx => ?_) (fun b hx => ?_)
   · rcases hx with hx | hx | hx | hx
     · exact hx
     · omega
     · omega
     · exact hx.elim
   · rcases hx with hx | hx | hx | hx
     · have := hX b hx; omega
     · omega
     · omega
     · exact hx.elim
 let Xit : Nat → Prop := fun b => Av X β b ∨ b = D ∨ b = l
 have side0 : Side Γ fx' w X β D l ⟨env, B q0 0, U q0 0⟩ a.tmps Xit (fun _ => False) W1 β :=
   ⟨rlE, fun b hb => by rcases hb with hb | hb | hb; exact .inl (.inl hb); exact .inr (.inl hb); exact .inr (.inr hb), fun k bi hk hv => .inl (.inr ⟨k, bi, hk, hv, rfl⟩), fun b hb => ⟨by
     rcases hb with hb | hb | hb
     · have := h.Avlt b hb; omega
     · omega
     · omega, fun h => h⟩, fun b hb => hb.elim, by omega, hD1⟩
 obtain ⟨y, y1, y2, y3, y4, y5⟩ : ∃ y : Yl Γ.P, y.on = true ∧ y.rd = false ∧ y.xs = xs ∧ y.l = l ∧ y.J = SideQ Γ fx' w X β D l rec env B U ok K a.tmps := ⟨
 { on := true
   rd := false
   l := l
   xs := xs
   J := SideQ Γ fx' w X β D l rec env B U ok K a.tmps
   stable := fun i t Xc E E' W W' hJ hk hE => SideQ.stable hD hl hX hJ hk hE
   round := fun i row Xc E W args _ hrow hJ _ hsz hpr => SideQ.round hD hl hX k2 k3 c4 c5 (by rw [hrec]) (by rw [hrec]) (by rw [hrec]) (by rw [hrec]) (by rw [hrec]) (by rw [hrec]) (fun jump => by rw [hrec]) hround hrow hJ hsz hpr }, rfl, rfl, rfl, rfl, rfl⟩
 have hy0 : y.J 0 false Xit (fun _ => False) W1 := by rw [y5]; exact ⟨β, q0, ok0, side0, hL1⟩
 have hPR1 : PR W1 Xit (.fn f caps) (a.eval g) := by
   refine hPR.mono ⟨by omega, fun b hb hn => ⟨hkp1.block b hb fun h => h, ?_⟩⟩
   rintro (hx | hx | hx)
   · exact hn hx
   · omega
   · omega
 obtain ⟨cv, hev, hcl, hcp⟩ : ∃ cv : Array Value, a.eval g = .func (.func f) #[] cv ∧ cv.size = caps.length ∧ ∀ (j : Nat) (p : PV), caps[j]? = some p → PR W1 Xit p (cv.getD j undef) := by
   generalize a.eval g = v at hPR1
   cases hPR1 with
   | fn _ _ vs hl hp => exact ⟨vs, rfl, hl.1, hp⟩
   | bm _ g p v he => exact absurd hI.2.1 (by rw [he, Nat.not_lt]; exact Nat.le_add_left _ _)
 have hcall := hI.2.2 W1 Xit cv y (h.glob.mono ⟨by omega, fun b hb hn => ⟨hkp1.block b hb fun h => h, by
   rintro (hx | hx | hx)
   · exact hn hx
   · omega
   · omega⟩⟩) y1 y2 y3 hcl hcp (fun b hb => (side0.lt b hb).1) hy0
 rw [y4, y5] at hcall
 refine ⟨l, [{ target := .collected D, args := #[] }], W1, { target := .fn (.func f) cv, args := #[.func (.yield l) #[] #[]] }, W1, f, #[.func (.yield l) #[] #[]] ++ cv, W1, ?_, ?_, fun f' _ => trivial, ?_, (fun hd => by cases hd), callsIn_wide.2 ?_⟩
 · have := run_enterLoop_outer (P := Γ.P) (w := w) fn a.tmps ps assign body
   rw [hl, hD, ← hW1, hrec]
   exact this
 · simp only [resolve, hev, Deferred.ofValue, Sem.run_pure]
   simp [go_sem]
 · simp only [invoke]
   exact hI.1 _ _
 · refine hcall.mono ?_
   rintro e w3 ⟨⟨v, rfl⟩, i, t, Xc, E, hit, β', hJ⟩
   -- what is left to the caller
   have back : ∀ {s3 : St} {w4 : World} (o : Obj), Side Γ fx' w X β D l s3 a.tmps Xc E w3 β' → w4 = w3.putObj l o → R Γ s3 { a with defers := [{ target := .collected D, args := #[] }] ++ a.defers } w4 := fun {s3 w4} o hs hw4 => by
     have kps : Kp (fun b => b = l) w3 w4 := by rw [hw4]; exact kp_putObj o _ rfl
     have z4 : w4.heap.size = w3.heap.size := by rw [hw4, World.putObj_size]
     have hsz3 := hs.sz
     have r1 := Rl.others (Γ := Ctx.plain Γ.P Γ.N w X β fx') (X' := fun b => X b ∨ b = D ∨ b = l) hs.rl kps (fun b hb => .inr (.inr (.inl hb))) (fun b hb he => by have : b < w.heap.size := hb; omega) (fun b _ hx => by
       rcases hx with hx | hx | hx
       · exact .inl hx
       · exact .inr (.inl hx)
       · exact .inr (.inr (.inl hx))) (fun b hx => by
       rcases hx with hx | hx | hx
       · have := hX b hx; omega
       · omega
       · omega)
     have hw0 := h.keep.size
     have hw0' : Γ.w0.heap.size ≤ w.heap.size := hw0
     have k3w : ∀ b, b < w.heap.size → ¬ Ex β b → w4.heap[b]? = w.heap[b]? := fun b hb he => (kps.block b (by omega) (by omega)).trans (hs.rl.keep.block b hb he)
     refine ⟨fun b => X b ∨ b = D ∨ b = l, β', ?_, fun b hb => .inl (gh.sub b hb), fun b hb hx => ?_, (fun hon => by rw [hoff] at hon; cases hon), (fun hon => by rw [hoff] at hon; cases hon), ?_⟩
     · exact
       { r1 with
         own := fun k bi hb hv => by
           rcases r1.own k bi hb hv with h1 | ⟨j, bj, hj, hvj, e⟩
           · exact .inl (Nat.le_trans hw0 h1)
           · have := h.own j bj hj hvj
             rwa [e] at this
         fixd := fun k hk => (r1.fixd k (subB_spec c1 k hk)).trans (h.fixd k hk)
         keep := ⟨r1.keep.os.trans h.keep.os, r1.keep.tape.trans h.keep.tape, r1.keep.output.trans h.keep.output, Nat.le_trans h.keep.size r1.keep.size, fun b hb he => (k3w b (Nat.lt_of_lt_of_le hb hw0) (by
           rintro ⟨k, bi, hk, hv, rfl⟩
           rcases h.own k bi hk hv with h1 | h1
           · have h1' : Γ.w0.heap.size ≤ bi.b := h1
             have hb' : bi.b < Γ.w0.heap.size := hb
             omega
           · exact he h1)).trans (h.keep.block b hb he)⟩ }
     · rcases hx with hx | hx | hx
       · exact gh.old b hb hx
       · omega
       · omega
     obtain ⟨mk, m1, m2, m3⟩ := gh.marks
     refine ⟨{ target := .collected D, args := #[] } :: mk, by rw [m1]; rfl, ?_, fun d hd => ?_⟩
     · refine List.nodup_cons.2 ⟨fun hm => ?_, m2⟩
       obtain ⟨D', d1, d2, _, d4⟩ := m3 _ hm
       have e : D = D' := by injection d1 with d1; injection d1
       have := (Array.getElem?_eq_some_iff.1 d2).1
       omega
     · rcases List.mem_cons.1 hd with rfl | hd
       · exact ⟨D, rfl, (kps.block D (by omega) (by omega)).trans hs.dd, fun _ => by omega, .inr (.inl rfl)⟩
       · obtain ⟨D', d1, d2, d3, d4⟩ := m3 d hd
         have hlt := (Array.getElem?_eq_some_iff.1 d2).1
         exact ⟨D', d1, (k3w D' hlt (by rintro ⟨k, bi, hk, hv, e⟩; exact h.notX k bi hk hv (e ▸ d4))).trans d2, d3, .inl d4⟩
   cases t with
   | false =>
     obtain ⟨q, ho, hs, hl3⟩ := hJ
     have := hit rfl
     subst this
     have hend := run_endLoop (P := Γ.P) hl3 (by rw [hrec]; simp)
     have hp : (rec .ready none).pending = none := by rw [hrec]
     rw [hp] at hend
     refine ⟨none, _, hend, ?_⟩
     exact ⟨_, .inl (hdone q ho), back _ hs rfl⟩
   | true =>
     obtain ⟨c, e, s2, hc, hKe, hs, hl3⟩ := hJ
     have hend := run_endLoop (P := Γ.P) hl3 (by rw [hrec]; simp)
     have hp : (rec .done (some c)).pending = some c := by rw [hrec]
     rw [hp] at hend
     refine ⟨some c, _, hend, ?_⟩
     rcases hc with ⟨rfl, rfl⟩ | ⟨id, rfl, rfl⟩
     · exact wpIn_ret ⟨_, .inl hKe, back _ hs rfl⟩
     · exact wpIn_exit ⟨_, .inl hKe, back _ hs rfl⟩
end Go.Avc
/- append to a slice that does not begin where its row begins. Conditions: none. -/
namespace Go.Avc
open Go.RowKit
def opAppendQ (P : Program) (t : TypeId) (x y : AV) (blk : Nat → Option Blk) (fx : List Nat) (d : Nat) (K : Kont) : Prop :=
 match P.underlying t with
 | some (.slice e) => match szOf P e with
   | some (s + 1) => match bytesOf P e with
     | some by_ => match zeroOf P e with
      | some z => match natEq (some (s + 1)) z.length with
       | true => match srcRows y blk (s + 1) with
        | some news => match x with
         | .lsl k o n => match blk k with
           | some (.row sz rows) => match Nat.beq sz (s + 1) with
             | true => match freshIn k fx with
               | true => o + n = rows.length ∧ (n + news.length) * by_ ≤ 140737488355328 ∧ n + news.length ≤ 140737488355328 ∧
                   K (.lsl d 0 (n + news.length)) [.kill k, .new d (.row (s + 1) (rows.drop o ++ news))] ∧ K (.lsl d o (n + news.length)) [.kill k, .new d (.row (s + 1) (rows ++ news))]
               | false => False
             | false => False
           | _ => False
         | _ => False
        | none => False
       | false => False
      | none => False
     | none => False
   | _ => False
 | _ => False
def apdArgs (P : Program) (c : Call) : Option (Operand × Operand × TypeId × TypeId) := match c.callee with
 | .builtin .append => match c.args.toList, c.argTypes.toList with
   | [x, y], [t, tx] => match srcKind P tx with
     | true => some (x, y, t, tx)
     | false => none
   | _, _ => none
 | _ => none
def moreQ (md : Bool) (P : Program) (fx : List Nat) (s : St) (o : Oper) (K : Kont) : Prop :=
 match o.op with
 | .call c => match apdArgs P c with
   | some (x, y, t, _) => match s.geto x with
     | .lsl _ _ _ => match o.dst with
       | some d => guardNew d s.used fx (opAppendQ P t (s.geto x) (s.geto y) s.blk fx d K)
       | none => False
     | _ => more8 md P fx s o K
   | none => more8 md P fx s o K
 | .insert t m k x => opMapUpdate P t (s.geto m) (s.geto k) (s.geto x) s.blk K
 | _ => more8 md P fx s o K
section
variable {Γ : Ctx} {s : St} {tm : Array Value} {w : World} {β : BM} {P : Program} {K : Kont}
theorem appendQ_sound (h : Rl Γ s tm w β) {t tx ty : TypeId} {x y : AV} {ux uy : Value} {d : Nat} (hk : srcKind P tx = true) (hd : d ∉ s.used) (hdfx : d ∉ Γ.fx) (hx : AR w (Av Γ.X β) β x ux) (hy : AR w (Av Γ.X β) β y uy)
   (hK : opAppendQ P t x y s.blk Γ.fx d K) : Out Γ s tm K ((Builtin.append_ #[t, tx] ty #[ux, uy]).run P w) := by
 unfold opAppendQ at hK
 split at hK
 case h_2 => exact hK.elim
 rename_i e ht
 split at hK
 case h_2 => exact hK.elim
 rename_i sz hs
 split at hK
 case h_2 => exact hK.elim
 rename_i by_ hby
 split at hK
 case h_2 => exact hK.elim
 rename_i z hz
 split at hK
 case h_2 => exact hK.elim
 rename_i hzl
 split at hK
 case h_2 => exact hK.elim
 rename_i news hnews
 obtain ⟨i, zv, hi, hzv, rfl, hone, _⟩ := zeroOf_spec hz
 have hsz : i.size = sz + 1 := szOf_info hs hi
 have hbyi := bytesOf_info hby hi
 have hzs : zv.cells.size = sz + 1 := by have := natEq_spec hzl; simp at this; omega
 obtain ⟨g1, g2, g3⟩ := srcRows_spec h hy hnews
 obtain ⟨cs, c1, c2, c3⟩ := g3 news.length (Nat.le_refl _)
 have hsrc : Src P i.size tx uy news.length cs.toList w := by
   rw [hsz]
   exact ⟨srcKind_spec hk, g1, by rw [Array.toArray_toList]; exact c1 w rfl, by rw [Array.toArray_toList]; exact c1 w.drew rfl, by rw [Array.length_toList, c2], cells_of_rows g2 c2 c3⟩
 have hc3 : ∀ (i : Nat) (row : List PV) (j : Nat) (p : PV), news[i]? = some row → row[j]? = some p → PR w (Av Γ.X β) p (cs.getD (i * (sz + 1) + j) undef) ∧ (cs.getD (i * (sz + 1) + j) undef).oneCell' = true :=
   fun i row j p hi hj => c3 i row j p hi (List.getElem?_eq_some_iff.1 hi).1 hj
 -- a new row
 have grow : ∀ (base : Option Addr) (n cap : Nat) (olds : List (List PV)) (ocs : List Value), (∀ (i : Nat) (row : List PV), olds[i]? = some row → row.length = sz + 1) → olds.length = n → ocs.length = n * (sz + 1) →
     (Builtin.firstCells i.size n (.slice base n cap)).run P w.drew = .ok ocs.toArray w.drew →
     (∀ (i : Nat) (row : List PV) (j : Nat) (p : PV), olds[i]? = some row → row[j]? = some p → PR w (Av Γ.X β) p (ocs.getD (i * (sz + 1) + j) undef) ∧ (ocs.getD (i * (sz + 1) + j) undef).oneCell' = true) →
     cap < n + news.length → (n + news.length) * by_ ≤ 140737488355328 → n + news.length ≤ 140737488355328 →
     ∀ (s' : St) (β1 : BM), Rl Γ s' tm w β1 → (∀ {p : PV} {v : Value}, PR w (Av Γ.X β) p v → PR w (Av Γ.X β1) p v) → d ∉ s'.used →
     ∃ u w' β', (Builtin.append_ #[t, tx] ty #[.slice base n cap, uy]).run P w = .ok u w' ∧ Rl Γ (s'.new d (.row (sz + 1) (olds ++ news))) tm w' β' ∧ AR w' (Av Γ.X β') β' (.lsl d 0 (n + news.length)) u := by
   intro base n cap olds ocs ho1 ho2 ho3 ho4 ho5 hcap hb1 hb2 s' β1 h' hup hds
   have hr := run_append_grow_src (P := P) w t tx ty e i zv ht hi hzv base n cap ocs ho4 uy news.length cs.toList hsrc hcap (by omega) (by rw [hbyi]; exact growslice_fits hcap hb1)
   have hge := grownCap_ge w (n + news.length) cap e
   have hle := grownCap_le_maxLen w (n + news.length) cap e (by unfold maxLen; omega)
   have hget : ∀ (y : Nat), y < (n + news.length) * (sz + 1) → (((ocs ++ cs.toList).toArray ++ Builtin.zeroCells zv.cells (grownCap w (n + news.length) cap e - (n + news.length)))).getD y undef = if y < n * (sz + 1) then ocs.getD y undef else cs.getD (y - n * (sz + 1)) undef := fun y hy => by
     rw [Array.getD_eq_getD_getElem?, Array.getElem?_append_left (by simp [ho3, c2]; rw [Nat.add_mul] at hy; exact hy)]
     simp only [List.getElem?_toArray]
     by_cases hyl : y < n * (sz + 1)
     · rw [if_pos hyl, List.getElem?_append_left (by omega)]; simp [List.getD]
     · rw [if_neg hyl, List.getElem?_append_right (by omega), ho3]; simp [Array.getD_eq_getD_getElem?]
   obtain ⟨β', q1, q2⟩ := row_out h' (w1 := w.drew) rfl rfl tpr rfl hds hdfx e (sz := sz + 1) (rows := olds ++ news)
     (cs := (ocs ++ cs.toList).toArray ++ Builtin.zeroCells zv.cells (grownCap w (n + news.length) cap e - (n + news.length))) (0, 0) (NF.zero _) (by omega)
     (fun x row hx => by
       rw [List.getElem?_append] at hx
       split at hx
       · exact ho1 x row hx
       · exact g2 _ row hx)
     (fun x row y p hx hy => by
       have hxl := (List.getElem?_eq_some_iff.1 hx).1
       simp only [List.length_append] at hxl
       rw [List.getElem?_append] at hx
       have hrl : row.length = sz + 1 := by
         split at hx
         · exact ho1 x row hx
         · exact g2 _ row hx
       have hyl : y < sz + 1 := by have := (List.getElem?_eq_some_iff.1 hy).1; omega
       have hm1 : x * (sz + 1) + (sz + 1) ≤ (n + news.length) * (sz + 1) := by rw [← Nat.succ_mul]; exact Nat.mul_le_mul_right _ (by omega)
       rw [hget _ (by omega)]
       split at hx
       · have hm2 : x * (sz + 1) + (sz + 1) ≤ n * (sz + 1) := by rw [← Nat.succ_mul]; exact Nat.mul_le_mul_right _ (by omega)
         rw [if_pos (by omega)]
         exact ⟨hup (ho5 x row y p hx hy).1, (ho5 x row y p hx hy).2⟩
       · have hm2 : n * (sz + 1) ≤ x * (sz + 1) := Nat.mul_le_mul_right _ (by omega)
         rw [if_neg (by omega)]
         have e1 : x * (sz + 1) + y - n * (sz + 1) = (x - olds.length) * (sz + 1) + y := by rw [ho2, Nat.sub_mul]; omega
         rw [e1]
         exact ⟨hup (hc3 _ row y p hx hy).1, (hc3 _ row y p hx hy).2⟩)
     (cap := grownCap w (n + news.length) cap e) (by simp; omega)
     (by
       simp only [Array.size_append, List.size_toArray, List.length_append, ho3, Array.length_toList, c2, size_zeroCells, hzs]
       rw [← Nat.add_mul, ← Nat.add_mul]
       exact Nat.mul_le_mul_right _ (by omega)) hle
   refine ⟨_, _, β', hr, q1, ?_⟩
   simpa [ho2] using q2
 split at hK
 case h_2 => exact hK.elim
 rename_i k o n
 split at hK
 case h_2 => exact hK.elim
 rename_i sz' rows hblk
 split at hK
 case h_2 => exact hK.elim
 rename_i hsz'
 split at hK
 case h_2 => exact hK.elim
 rename_i hkfx
 have hsz' := Nat.eq_of_beq_eq_true hsz'
 subst hsz'
 obtain ⟨hon, hb1, hb2, hK1, hK2⟩ := hK
 have hkfx := freshIn_spec hkfx
 obtain ⟨bi, hβ, hb⟩ := h.live hblk
 have hb' := hb
 obtain ⟨b1, b2, b2', b3, b4⟩ := hb'
 have hup : ∀ {p : PV} {v : Value}, PR w (Av Γ.X β) p v → PR w (Av Γ.X (fun j => if j = k then none else β j)) p v := fun hp =>
   hp.mono ⟨Nat.le_refl _, fun b _ hA => ⟨rfl, fun hA' => hA (by
     rcases hA' with hx | ⟨j, bj, hj, hv, hbb⟩
     · exact .inl hx
     · refine .inr ⟨j, bj, ?_, hv, hbb⟩
       by_cases e : j = k
       · simp [e] at hj
       · simpa [e] using hj)⟩⟩
 cases hx with
 | lslDead _ _ _ _ hd => rw [hβ] at hd; cases hd
 | lslV _ _ bi' a hbb hil =>
   have hdr : rows.drop o = [] := List.drop_eq_nil_of_le (by omega)
   rw [hdr, List.nil_append, Nat.zero_add] at hK1
   by_cases hn : news.length = 0
   · have hnil : news = [] := List.length_eq_zero_iff.1 hn
     subst hnil
     have hcs : cs.toList = [] := List.length_eq_zero_iff.1 (by simp [c2])
     rw [hcs] at hsrc
     have hr := run_append_nothing (P := P) w t tx ty e i ht hi a 0 0 (Nat.le_refl _) uy hsrc
     have hn' := (h.killK hkfx).newK (k := d) hd hdfx ⟨0, sz + 1, 0, 0, true⟩ (.row (sz + 1) []) (w' := w) (Nat.le_refl _) (fun _ _ => rfl) rfl tpr rfl (fun hv => by cases hv) (by simp [Blk.keys])
       (fun β' e1 e2 had => ⟨rfl, by omega, rfl, by simp, .inl ⟨rfl, rfl⟩⟩)
     exact ⟨_, _, _, _, _, hK1, hr, hn', .lslV d 0 ⟨0, sz + 1, 0, 0, true⟩ a (by simp) (Nat.zero_le _), by simp [AV.keys, St.acts, St.act, St.new]⟩
   · obtain ⟨u, w', β', r1, r2, r3⟩ := grow a 0 0 [] [] (by simp) rfl (by simp) (by cases a <;> simp [Builtin.firstCells, loadCells, loadCellsFrom]) (by simp) (by omega) (by simpa using hb1) (by simpa using hb2) _ _ (h.killK hkfx) hup hd
     exact ⟨_, _, _, _, β', hK1, r1, by simpa [St.acts, St.act] using r2, by simpa using r3, by simp [AV.keys, St.acts, St.act, St.new]⟩
 | lsl _ _ _ bi' cap hbb hv hncap hcc hil hm =>
   rw [hβ] at hbb; cases hbb
   rcases b4 with ⟨b4, _⟩ | ⟨_, cur, et, fz, b5, b6, b7, b8, b9⟩
   · rw [hv] at b4; cases b4
   rw [b1] at hcc ⊢
   have hrow : rows.length * (sz + 1) = o * (sz + 1) + n * (sz + 1) := by rw [← hon, Nat.add_mul]
   by_cases hroom : n + news.length ≤ cap
   · -- in place
     have hfit : o * (sz + 1) + n * (sz + 1) + news.length * (sz + 1) ≤ cur.size := by
       rw [← Nat.add_mul, ← Nat.add_mul, ← b7]
       exact Nat.le_trans (Nat.mul_le_mul_right _ (by omega)) hcc
     have hcl : cs.toList.length = news.length * (sz + 1) := by simp [c2]
     have hr := run_append_room_src (P := P) w t tx ty e i ht hi bi.b (o * (sz + 1)) n cap uy news.length cs.toList hsrc hroom
       (fun j hj => by
         rw [hsz, getD_cell b5 (by rw [hcl] at hj; omega)]; rfl)
       (fun j hj => by
         rw [hsz]
         have := b6 (o * (sz + 1) + n * (sz + 1) + j) (by rw [hcl] at hj; omega)
         simp only [World.frozen?, b5]
         simpa using this)
     obtain ⟨w', cs', r1, r2, r3, r4, r5, r6, r7, r8, r9⟩ := run_stores P bi.b et fz cs.toList (o * (sz + 1) + n * (sz + 1)) 0 cur w b5 b6 (by omega) hsrc.one
     have hst := run_storeCells_cells (P := P) bi.b (o * (sz + 1) + n * (sz + 1)) cs.toList 0 w (fun j hj => by rw [getD_cell b5 (by omega)]; rfl) (fun j hj => by
         have := b6 (o * (sz + 1) + n * (sz + 1) + 0 + j) (by omega)
         simp only [World.frozen?, b5]
         simpa using this) hsrc.one
     rw [hst] at r1
     have hw' : w.setCells bi.b (o * (sz + 1) + n * i.size) cs.toList = w' := by
       rw [hsz]
       injection r1 with _ r1
     rw [hw'] at hr
     obtain ⟨β', q1, q2⟩ := h.moveK (w' := w') hβ hv hkfx hd hdfx (bi' := ⟨bi.b, sz + 1, bi.tot, rows.length + news.length, false⟩) rfl rfl r5 (fun b hbne => r6 b hbne) r7 r8 r9 (sz := sz + 1) (rows := rows ++ news)
       (fun β' had => ⟨rfl, by omega, by simp, fun x row hx => by
           rw [List.getElem?_append] at hx
           split at hx
           · exact b3 x row hx
           · exact g2 _ row hx, .inr ⟨rfl, cs', et, fz, r2, fun j hj => b6 j (by omega), b7.trans r3.symm, by simp only [List.length_append]; rw [Nat.add_mul, hrow]; show _ ≤ bi.tot; omega, fun x row y p hx hy => by
           have hxl := (List.getElem?_eq_some_iff.1 hx).1
           simp only [List.length_append] at hxl
           rw [List.getElem?_append] at hx
           have hrl : row.length = sz + 1 := by
             split at hx
             · exact b3 x row hx
             · exact g2 _ row hx
           have hyl : y < sz + 1 := by have := (List.getElem?_eq_some_iff.1 hy).1; omega
           rw [r4]
           split at hx
           · have hm2 : x * (sz + 1) + (sz + 1) ≤ rows.length * (sz + 1) := by rw [← Nat.succ_mul]; exact Nat.mul_le_mul_right _ (by omega)
             rw [if_neg (by omega)]
             exact ⟨(b9 x row y p hx hy).1.mono had, (b9 x row y p hx hy).2⟩
           · have hm2 : rows.length * (sz + 1) ≤ x * (sz + 1) := Nat.mul_le_mul_right _ (by omega)
             have hm1 : x * (sz + 1) + (sz + 1) ≤ (rows.length + news.length) * (sz + 1) := by rw [← Nat.succ_mul]; exact Nat.mul_le_mul_right _ (by omega)
             rw [Nat.add_mul] at hm1
             rw [if_pos (by rw [hcl]; omega), getD_toList]
             have e1 : x * (sz + 1) + y - (o * (sz + 1) + n * (sz + 1) + 0) = (x - rows.length) * (sz + 1) + y := by rw [Nat.sub_mul]; omega
             rw [e1]
             exact ⟨(hc3 _ row y p hx hy).1.mono had, (hc3 _ row y p hx hy).2⟩⟩⟩)
     refine ⟨_, _, _, _, β', hK2, hr, by simpa [St.acts, St.act] using q1, ?_, by simp [AV.keys, St.acts, St.act, St.new]⟩
     exact AR.lsl (w := w') (A := Av Γ.X β') (β := β') d o (n + news.length) _ cap q2 rfl hroom hcc (by show o + (n + news.length) ≤ rows.length + news.length; omega) hm
   · obtain ⟨u, w', β', r1, r2, r3⟩ := grow (some ⟨bi.b, o * (sz + 1), none⟩) n cap (rows.drop o) (((List.range (n * (sz + 1))).map fun y => cur.getD (o * (sz + 1) + y) undef)) (fun x row hx => b3 (o + x) row (by rw [List.getElem?_drop] at hx; exact hx)) (by rw [List.length_drop]; omega) (by simp)
       (by
         rw [hsz]
         simp only [Builtin.firstCells]
         refine run_loadCells (P := P) w.drew _ (n * (sz + 1)) _ fun y hy => ?_
         rw [Addr.add_lit]
         exact getD_cell (w := w) b5 (by omega))
       (fun x row y p hx hy => by
         rw [List.getElem?_drop] at hx
         have hrl := b3 (o + x) row hx
         have hxl := (List.getElem?_eq_some_iff.1 hx).1
         have hyl : y < sz + 1 := by have := (List.getElem?_eq_some_iff.1 hy).1; omega
         have hm2 : x * (sz + 1) + (sz + 1) ≤ n * (sz + 1) := by rw [← Nat.succ_mul]; exact Nat.mul_le_mul_right _ (by omega)
         have e1 : ((List.range (n * (sz + 1))).map fun y => cur.getD (o * (sz + 1) + y) undef).getD (x * (sz + 1) + y) undef = cur.getD ((o + x) * (sz + 1) + y) undef := by
           rw [List.getD, List.getElem?_map, List.getElem?_range (by omega), Nat.add_mul, Nat.add_assoc]; rfl
         rw [e1]
         exact b9 (o + x) row y p hx hy) (by omega) hb1 hb2 _ _ (h.killK hkfx) hup hd
     exact ⟨_, _, _, _, β', hK1, r1, by simpa [St.acts, St.act] using r2, r3, by simp [AV.keys, St.acts, St.act, St.new]⟩
end
section
variable {Γ : Ctx}
theorem apdArgs_spec {P : Program} {c : Call} {x y : Operand} {t tx : TypeId} (h : apdArgs P c = some (x, y, t, tx)) : c.callee = .builtin .append ∧ c.args = #[x, y] ∧ c.argTypes = #[t, tx] ∧ srcKind P tx = true := by
 unfold apdArgs at h
 split at h
 · rename_i hc
   split at h
   · rename_i ha ht
     split at h
     · rename_i hm; cases h; exact ⟨hc, Array.toList_inj.1 (by simpa using ha), Array.toList_inj.1 (by simpa using ht), hm⟩
     · cases h
   · cases h
 · cases h
theorem moreQ_ok0 {md : Bool} : MoreOK0 (moreQ md Γ.P Γ.fx) Γ := by
 intro F hF n s a w β o K hK h ho next Q hk
 have old : more8 md Γ.P Γ.fx s o K → o.wpIn F n Γ.P a w next Q := fun hK => more8_ok0 F hF n s a w β o K hK h ho next Q hk
 have hd : a.defers = a.defers := rfl
 have fin : ∀ (S : Sem Value), (execOp a.eval o) = (do pure (.value (← S))) → (∀ c, o.op ≠ .defer c) → Out Γ s a.tmps K (S.run Γ.P w) → o.wpIn F n Γ.P a w next Q := by
   rintro S he hnd ⟨v, acts, u, w', β', hKv, hr, hR, hv, hkv⟩
   refine wpIn_of_run hF hnd (v := u) (w' := w') ?_ (hk v acts _ w' hKv (putD_R hd hR ho hv hkv))
   rw [he, Sem.run_bind, hr, Result.andThen_ok]
   rfl
 unfold moreQ at hK
 split at hK
 · rename_i c hx
   split at hK
   · rename_i x y t tx hc
     obtain ⟨e0, e1, e2, hm⟩ := apdArgs_spec hc
     split at hK
     · split at hK
       · obtain ⟨h1, h2, hK⟩ := guardNew_spec hK
         refine fin (Builtin.append_ #[t, tx] o.type #[a.eval x, a.eval y]) ?_ (by rw [hx]; intro c; simp) (appendQ_sound h hm h1 h2 (geto_AR h x) (geto_AR h y) hK)
         simp only [execOp, hx, resolve, e0, e1, e2, invoke, builtin]
         simp
       · exact hK.elim
     · exact old hK
   · exact old hK
 · rename_i t m k x hx
   obtain ⟨acts, w', β', hKv, hr, hR⟩ := mapUpdate_sound h (geto_AR h m) (geto_AR h k) (geto_AR h x) hK
   refine wpIn_of_skip hF (by rw [hx]; intro c; simp) (w' := w') ?_ (hk .junk acts _ w' hKv (putD_R hd hR ho (.junk _) (by simp [AV.keys])))
   simp [execOp, hx, hr]
 · exact old hK
end
theorem moreQ_ok {Γ : Ctx} {md : Bool} : MoreOK (moreQ md Γ.P Γ.fx) Γ := fun X w β => moreQ_ok0 (Γ := Γ.here X w β)
end Go.Avc
