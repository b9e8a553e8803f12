/- Versions: ways, the least of them, and how they are found. Conditions: none. -/
import Derived.Test.YtihbkbioafdhjaaWm
import Derived.Test.YtihbkbioafdhjaaWd
import Derived.Test.YtihbkbioafdhjaaWg
set_option linter.unusedSimpArgs false
set_option linter.unusedVariables false
set_option maxRecDepth 20000
set_option maxHeartbeats 4000000
namespace Go.Proofs.Ytihbkbioafdhjaa
open Go.Avc
def isWay (l : List Cv) : Int → List Int → Int → Prop
 | a, [], b => a = b
 | a, e :: w, b => ∃ x, (e, x) ∈ outF l a ∧ isWay l x w b
theorem isWay_app (l : List Cv) : ∀ (w w' : List Int) (a b : Int), isWay l a (w ++ w') b ↔ ∃ u, isWay l a w u ∧ isWay l u w' b
 | [], w', a, b => by simp [isWay]
 | e :: w, w', a, b => by
   simp only [List.cons_append, isWay, isWay_app l w w']
   constructor
   · rintro ⟨x, h1, u, h2, h3⟩; exact ⟨u, ⟨x, h1, h2⟩, h3⟩
   · rintro ⟨u, ⟨x, h1, h2⟩, h3⟩; exact ⟨x, h1, u, h2, h3⟩
theorem isWay_snoc (l : List Cv) (w : List Int) (e a b : Int) : isWay l a (w ++ [e]) b ↔ ∃ u, isWay l a w u ∧ (e, b) ∈ outF l u := by
 rw [isWay_app]
 constructor
 · rintro ⟨u, h1, x, h2, rfl⟩; exact ⟨u, h1, h2⟩
 · rintro ⟨u, h1, h2⟩; exact ⟨u, h1, b, h2, rfl⟩
def lexLt : List Int → List Int → Prop
 | x :: a, y :: b => x < y ∨ x = y ∧ lexLt a b
 | _, _ => False
theorem lexLt_asymm : ∀ {a b : List Int}, lexLt a b → ¬ lexLt b a
 | x :: a, y :: b, h, k => by
   rcases h with h | ⟨rfl, h⟩
   · rcases k with k | ⟨rfl, k⟩ <;> omega
   · rcases k with k | ⟨_, k⟩
     · omega
     · exact lexLt_asymm h k
 | [], _, h, _ => by simp [lexLt] at h
 | _ :: _, [], h, _ => by simp [lexLt] at h
theorem lexLt_irr (a : List Int) : ¬ lexLt a a := fun h => lexLt_asymm h h
theorem lexLt_trans : ∀ {a b c : List Int}, lexLt a b → lexLt b c → lexLt a c
 | x :: a, y :: b, z :: c, h, k => by
   rcases h with h | ⟨rfl, h⟩
   · rcases k with k | ⟨rfl, k⟩
     · exact .inl (by omega)
     · exact .inl h
   · rcases k with k | ⟨rfl, k⟩
     · exact .inl k
     · exact .inr ⟨rfl, lexLt_trans h k⟩
 | [], _, _, h, _ => by simp [lexLt] at h
 | _ :: _, [], _, h, _ => by simp [lexLt] at h
 | _ :: _, _ :: _, [], _, h => by simp [lexLt] at h
theorem lexLt_left : ∀ {a b : List Int}, lexLt a b → ∀ (x y : List Int), lexLt (a ++ x) (b ++ y)
 | p :: a, q :: b, h, x, y => by
   rcases h with h | ⟨rfl, h⟩
   · exact .inl h
   · exact .inr ⟨rfl, lexLt_left h x y⟩
 | [], _, h, _, _ => by simp [lexLt] at h
 | _ :: _, [], h, _, _ => by simp [lexLt] at h
theorem lexLt_same (a : List Int) {x y : Int} (h : x < y) : lexLt (a ++ [x]) (a ++ [y]) := by
 induction a with
 | nil => exact .inl h
 | cons p a ih => exact .inr ⟨rfl, ih⟩
def wLt (a b : List Int) : Prop := a.length < b.length ∨ a.length = b.length ∧ lexLt a b
def wLe (a b : List Int) : Prop := a = b ∨ wLt a b
theorem wLt_irr (a : List Int) : ¬ wLt a a := by
 rintro (h | ⟨_, h⟩)
 · omega
 · exact lexLt_irr a h
theorem wLt_trans {a b c : List Int} (h : wLt a b) (k : wLt b c) : wLt a c := by
 rcases h with h | ⟨h1, h2⟩ <;> rcases k with k | ⟨k1, k2⟩
 · exact .inl (by omega)
 · exact .inl (by omega)
 · exact .inl (by omega)
 · exact .inr ⟨by omega, lexLt_trans h2 k2⟩
theorem wLe_anti {a b : List Int} (h : wLe a b) (k : wLe b a) : a = b := by
 rcases h with h | h
 · exact h
 · rcases k with k | k
   · exact k.symm
   · exact absurd (wLt_trans h k) (wLt_irr a)
theorem wLt_le {a b c : List Int} (h : wLt a b) (k : wLe b c) : wLt a c := by
 rcases k with rfl | k
 · exact h
 · exact wLt_trans h k
theorem wLt_snoc {a b : List Int} (h : wLt a b) (x y : Int) : wLt (a ++ [x]) (b ++ [y]) := by
 rcases h with h | ⟨h1, h2⟩
 · exact .inl (by simp; exact h)
 · exact .inr ⟨by simp; exact h1, lexLt_left h2 _ _⟩
theorem wLt_last (a : List Int) {x y : Int} (h : x < y) : wLt (a ++ [x]) (a ++ [y]) := .inr ⟨by simp, lexLt_same a h⟩
theorem wLe_snoc {a b : List Int} (h : wLe a b) {x y : Int} (hxy : x ≤ y) : wLe (a ++ [x]) (b ++ [y]) := by
 rcases h with rfl | h
 · rcases Int.lt_or_eq_of_le hxy with h | rfl
   · exact .inr (wLt_last a h)
   · exact .inl rfl
 · exact .inr (wLt_snoc h x y)
theorem wLe_nil (a : List Int) : wLe [] a := by
 cases a with
 | nil => exact .inl rfl
 | cons x a => exact .inr (.inl (by simp))
def isLeast (l : List Cv) (a b : Int) (w : List Int) : Prop := isWay l a w b ∧ ∀ w', isWay l a w' b → wLe w w'
theorem isLeast_uniq {l : List Cv} {a b : Int} {w w' : List Int} (h : isLeast l a b w) (k : isLeast l a b w') : w = w' := wLe_anti (h.2 _ k.1) (k.2 _ h.1)
theorem nbT_ge : ∀ (n : Nat) (l : List Cv), ∀ q ∈ nbT n l, 2 * (n : Int) ≤ q.2.1
 | _, [], q, h => by cases h
 | n, c :: l, q, h => by
   simp only [nbT, List.mem_cons] at h
   rcases h with rfl | rfl | h
   · exact Int.le_refl _
   · show 2 * (n : Int) ≤ 2 * (n : Int) + 1; omega
   · have := nbT_ge (n + 1) l q h; omega
theorem nbT_sorted : ∀ (n : Nat) (l : List Cv), (nbT n l).Pairwise fun p q => p.2.1 < q.2.1
 | _, [] => List.Pairwise.nil
 | n, c :: l => by
   simp only [nbT]
   refine List.pairwise_cons.2 ⟨fun q hq => ?_, List.pairwise_cons.2 ⟨fun q hq => ?_, nbT_sorted (n + 1) l⟩⟩
   · rcases List.mem_cons.1 hq with rfl | hq
     · show 2 * (n : Int) < 2 * (n : Int) + 1; omega
     · have := nbT_ge (n + 1) l q hq; show 2 * (n : Int) < q.2.1; omega
   · have := nbT_ge (n + 1) l q hq; show 2 * (n : Int) + 1 < q.2.1; omega
theorem outF_sorted (l : List Cv) (k : Int) : (outF l k).Pairwise fun p q => p.1 < q.1 := by
 unfold outF
 rw [List.pairwise_map]
 exact (nbT_sorted 0 l).filter _
theorem nbT_mem : ∀ (n : Nat) (l : List Cv) (q : Int × Int × Int), q ∈ nbT n l ↔ ∃ (i : Nat) (h : i < l.length), q = (l[i].a, 2 * ((n + i : Nat) : Int), l[i].b) ∨ q = (l[i].b, 2 * ((n + i : Nat) : Int) + 1, l[i].a)
 | n, [], q => by simp [nbT]
 | n, c :: l, q => by
   simp only [nbT, List.mem_cons, nbT_mem (n + 1) l]
   constructor
   · rintro (rfl | rfl | ⟨i, h, hq⟩)
     · exact ⟨0, by simp, .inl (by simp)⟩
     · exact ⟨0, by simp, .inr (by simp)⟩
     · refine ⟨i + 1, by simp; omega, ?_⟩
       rw [show n + (i + 1) = n + 1 + i by omega]
       simpa using hq
   · rintro ⟨i, h, hq⟩
     cases i with
     | zero => rcases hq with hq | hq
               · exact .inl (by simpa using hq)
               · exact .inr (.inl (by simpa using hq))
     | succ i =>
       refine .inr (.inr ⟨i, by simpa using h, ?_⟩)
       rw [show n + 1 + i = n + (i + 1) by omega]
       simpa using hq
theorem outF_mem {l : List Cv} {u e x : Int} : (e, x) ∈ outF l u ↔ ∃ (i : Nat) (h : i < l.length), (u = l[i].a ∧ e = 2 * (i : Int) ∧ x = l[i].b) ∨ (u = l[i].b ∧ e = 2 * (i : Int) + 1 ∧ x = l[i].a) := by
 unfold outF
 simp only [List.mem_map, List.mem_filter, decide_eq_true_eq]
 constructor
 · rintro ⟨q, ⟨hq, rfl⟩, he⟩
   obtain ⟨i, h, hq⟩ := (nbT_mem 0 l q).1 hq
   refine ⟨i, h, ?_⟩
   rw [Nat.zero_add] at hq
   rcases hq with rfl | rfl
   · cases he; exact .inl ⟨rfl, rfl, rfl⟩
   · cases he; exact .inr ⟨rfl, rfl, rfl⟩
 · rintro ⟨i, h, hq⟩
   rcases hq with ⟨rfl, rfl, rfl⟩ | ⟨rfl, rfl, rfl⟩
   · exact ⟨(l[i].a, 2 * (i : Int), l[i].b), ⟨(nbT_mem 0 l _).2 ⟨i, h, .inl (by rw [Nat.zero_add])⟩, rfl⟩, rfl⟩
   · exact ⟨(l[i].b, 2 * (i : Int) + 1, l[i].a), ⟨(nbT_mem 0 l _).2 ⟨i, h, .inr (by rw [Nat.zero_add])⟩, rfl⟩, rfl⟩
def lev (l : List Cv) (a : Int) : Nat → List (List Int × Int)
 | 0 => [([], a)]
 | n + 1 => (lev l a n).flatMap fun q => (outF l q.2).map fun p => (q.1 ++ [p.1], p.2)
theorem lev_mem {l : List Cv} {a : Int} : ∀ {n : Nat} {w : List Int} {x : Int}, (w, x) ∈ lev l a n ↔ isWay l a w x ∧ w.length = n
 | 0, w, x => by
   simp only [lev, List.mem_singleton, Prod.mk.injEq, List.length_eq_zero_iff]
   constructor
   · rintro ⟨rfl, rfl⟩; exact ⟨rfl, rfl⟩
   · rintro ⟨h, rfl⟩; exact ⟨rfl, h.symm⟩
 | n + 1, w, x => by
   simp only [lev, List.mem_flatMap, List.mem_map]
   constructor
   · rintro ⟨⟨w', u⟩, h1, ⟨e, y⟩, h2, h3⟩
     simp only [Prod.mk.injEq] at h3
     obtain ⟨rfl, rfl⟩ := h3
     obtain ⟨g1, g2⟩ := lev_mem.1 h1
     exact ⟨(isWay_snoc l w' e a y).2 ⟨u, g1, h2⟩, by simp [g2]⟩
   · rintro ⟨h, hl⟩
     rcases List.eq_nil_or_concat w with rfl | ⟨w', e, rfl⟩
     · simp at hl
     · rw [List.concat_eq_append] at h hl ⊢
       obtain ⟨u, g1, g2⟩ := (isWay_snoc l w' e a x).1 h
       exact ⟨(w', u), lev_mem.2 ⟨g1, by simpa using hl⟩, (e, x), g2, rfl⟩
theorem lev_sorted (l : List Cv) (a : Int) : ∀ n, (lev l a n).Pairwise fun p q => lexLt p.1 q.1
 | 0 => by simp [lev]
 | n + 1 => by
   simp only [lev]
   rw [List.pairwise_flatMap]
   refine ⟨fun q _ => ?_, ?_⟩
   · rw [List.pairwise_map]
     exact (outF_sorted l q.2).imp fun {x y} h => lexLt_same q.1 h
   · refine (lev_sorted l a n).imp fun {p q} h x hx y hy => ?_
     obtain ⟨x', _, rfl⟩ := List.mem_map.1 hx
     obtain ⟨y', _, rfl⟩ := List.mem_map.1 hy
     exact lexLt_left h _ _
def levB (l : List Cv) (a b : Int) (n : Nat) : Option (List Int) := ((lev l a n).find? fun q => decide (q.2 = b)).map (·.1)
def refW (l : List Cv) (a b : Int) (n : Nat) : Option (List Int) := (List.range n).findSome? (levB l a b)
theorem levB_some {l : List Cv} {a b : Int} {n : Nat} {w : List Int} (h : levB l a b n = some w) : isWay l a w b ∧ w.length = n ∧ ∀ w', isWay l a w' b → w'.length = n → wLe w w' := by
 unfold levB at h
 rw [Option.map_eq_some_iff] at h
 obtain ⟨⟨w0, x⟩, hf, rfl⟩ := h
 obtain ⟨h1, pre, suf, hl, hpre⟩ := List.find?_eq_some_iff_append.1 hf
 have hx : x = b := by simpa using h1
 subst hx
 have hm : (w0, x) ∈ lev l a n := by rw [hl]; simp
 obtain ⟨g1, g2⟩ := lev_mem.1 hm
 refine ⟨g1, g2, fun w' h' hn => ?_⟩
 have hm' : (w', x) ∈ lev l a n := lev_mem.2 ⟨h', hn⟩
 have hs := lev_sorted l a n
 rw [hl] at hm' hs
 rcases List.mem_append.1 hm' with k | k
 · have := hpre _ k
   simp at this
 · rcases List.mem_cons.1 k with k | k
   · cases k; exact .inl rfl
   · have := (List.pairwise_cons.1 (List.pairwise_append.1 hs).2.1).1 _ k
     exact .inr (.inr ⟨by show w0.length = w'.length; omega, this⟩)
theorem levB_none {l : List Cv} {a b : Int} {n : Nat} (h : levB l a b n = none) {w : List Int} (hw : isWay l a w b) : w.length ≠ n := by
 intro hn
 unfold levB at h
 rw [Option.map_eq_none_iff, List.find?_eq_none] at h
 have := h _ (lev_mem.2 ⟨hw, hn⟩)
 simp at this
theorem refW_some {l : List Cv} {a b : Int} {n : Nat} {w : List Int} (h : refW l a b n = some w) : isLeast l a b w ∧ w.length < n := by
 induction n with
 | zero => simp [refW] at h
 | succ n ih =>
   unfold refW at h ih
   rw [List.range_succ, List.findSome?_append] at h
   cases hp : (List.range n).findSome? (levB l a b) with
   | some w' =>
     rw [hp] at h
     simp only [Option.some_or, Option.some.injEq] at h
     subst h
     obtain ⟨h1, h2⟩ := ih hp
     exact ⟨h1, by omega⟩
   | none =>
     rw [hp] at h
     simp only [Option.none_or, List.findSome?_cons, List.findSome?_nil] at h
     have hb : levB l a b n = some w := by
       cases hb : levB l a b n with
       | some x => rw [hb] at h; exact h
       | none => rw [hb] at h; cases h
     obtain ⟨g1, g2, g3⟩ := levB_some hb
     refine ⟨⟨g1, fun w' h' => ?_⟩, by omega⟩
     by_cases e : w'.length = n
     · exact g3 w' h' e
     · have hge : n ≤ w'.length := by
         refine Classical.byContradiction fun hlt => ?_
         have hm := List.findSome?_eq_none_iff.1 hp w'.length (List.mem_range.2 (by omega))
         exact levB_none hm h' rfl
       exact .inr (.inl (by omega))
theorem refW_none {l : List Cv} {a b : Int} {n : Nat} (h : refW l a b n = none) {w : List Int} (hw : isWay l a w b) : n ≤ w.length := by
 refine Classical.byContradiction fun hlt => ?_
 have hm := List.findSome?_eq_none_iff.1 h w.length (List.mem_range.2 (by omega))
 exact levB_none hm hw rfl
theorem refW_is {l : List Cv} {a b : Int} {n : Nat} {w : List Int} (h : isLeast l a b w) (hn : w.length < n) : refW l a b n = some w := by
 cases hr : refW l a b n with
 | none => have := refW_none hr h.1; omega
 | some w' => rw [isLeast_uniq (refW_some hr).1 h]
theorem refW_no {l : List Cv} {a b : Int} {n : Nat} (h : ∀ w, ¬ isWay l a w b) : refW l a b n = none := by
 cases hr : refW l a b n with
 | none => rfl
 | some w' => exact absurd (refW_some hr).1.1 (h w')
end Go.Proofs.Ytihbkbioafdhjaa
/- Versions: schemas reached one after the other. Conditions: none. -/
namespace Go.Proofs.Ytihbkbioafdhjaa
open Go.Avc
structure Rd where
 key : Int
 par : Nat
 el : Int
 bef : Int
def zRd : Rd := ⟨0, 0, 0, 0⟩
structure BInv (l : List Cv) (n : Nat) (a : Int) (g : List Rd) (i k : Nat) : Prop where
 h0 : ∃ h : 0 < g.length, g[0] = ⟨a, 0, 0, 0⟩
 nd : (g.map Rd.key).Nodup
 rg : ∀ r ∈ g, 0 ≤ r.key ∧ r.key < n
 ed : ∀ j (h : j < g.length), 0 < j → ∃ hp : g[j].par < g.length, g[j].par < j ∧ g[j].bef = g[g[j].par].key ∧ (g[j].el, g[j].key) ∈ outF l g[g[j].par].key
 lt : ∀ j j' (h : j < g.length) (h' : j' < g.length), 0 < j → j < j' → g[j].par < g[j'].par ∨ g[j].par = g[j'].par ∧ g[j].el < g[j'].el
 up : ∀ j (h : j < g.length), 0 < j → g[j].par < i ∨ g[j].par = i ∧ ∃ hi : i < g.length, ∃ m, m < k ∧ ∃ x, (outF l g[i].key)[m]? = some (g[j].el, x)
 cm : ∀ p (h : p < g.length) m, (p < i ∨ p = i ∧ m < k) → ∀ q, (outF l g[p].key)[m]? = some q → ∃ j, ∃ hj : j < g.length, g[j].key = q.2 ∧ (j = 0 ∨ g[j].par < p ∨ g[j].par = p ∧ g[j].el ≤ q.1)
theorem BInv.start (l : List Cv) {n : Nat} {a : Int} (ha : 0 ≤ a) (hn : a < n) : BInv l n a [⟨a, 0, 0, 0⟩] 0 0 := by
 refine ⟨⟨by simp, rfl⟩, by simp, fun r hr => ?_, fun j h h0 => ?_, fun j j' h h' h0 hl => ?_, fun j h h0 => ?_, fun p h m hm => ?_⟩
 · rw [List.mem_singleton] at hr; subst hr; exact ⟨ha, hn⟩
 · simp at h; omega
 · simp at h h'; omega
 · simp at h; omega
 · omega
theorem BInv.seen {l : List Cv} {n : Nat} {a : Int} {g : List Rd} {i k : Nat} (h : BInv l n a g i k) (hi : i < g.length) {q : Int × Int} (hq : (outF l g[i].key)[k]? = some q) (hs : q.2 ∈ g.map Rd.key) : BInv l n a g i (k + 1) := by
 refine ⟨h.h0, h.nd, h.rg, h.ed, h.lt, fun j hj h0 => ?_, fun p hp m hm x hx => ?_⟩
 · rcases h.up j hj h0 with u | ⟨u1, u2, m, u3, u4⟩
   · exact .inl u
   · exact .inr ⟨u1, u2, m, by omega, u4⟩
 · by_cases hold : p < i ∨ p = i ∧ m < k
   · exact h.cm p hp m hold x hx
   · have e1 : p = i := by omega
     subst e1
     have e2 : m = k := by omega
     subst e2
     rw [hq] at hx
     cases hx
     obtain ⟨r, hr, hrk⟩ := List.mem_map.1 hs
     obtain ⟨j, hj, rfl⟩ := List.getElem_of_mem hr
     refine ⟨j, hj, hrk, ?_⟩
     by_cases h0 : j = 0
     · exact .inl h0
     · rcases h.up j hj (by omega) with u | ⟨u1, u2, m', u3, x', u4⟩
       · exact .inr (.inl u)
       · refine .inr (.inr ⟨u1, ?_⟩)
         obtain ⟨w1, w2⟩ := List.getElem?_eq_some_iff.1 u4
         obtain ⟨w3, w4⟩ := List.getElem?_eq_some_iff.1 hq
         have := List.pairwise_iff_getElem.1 (outF_sorted l g[p].key) m' m w1 w3 u3
         rw [w2, w4] at this
         exact Int.le_of_lt this
theorem BInv.new {l : List Cv} {n : Nat} {a : Int} {g : List Rd} {i k : Nat} (h : BInv l n a g i k) (hi : i < g.length) {q : Int × Int} (hq : (outF l g[i].key)[k]? = some q) (hs : q.2 ∉ g.map Rd.key) (hr : 0 ≤ q.2 ∧ q.2 < n) :
   BInv l n a (g ++ [Rd.mk q.2 i q.1 g[i].key]) i (k + 1) := by
 have L : (g ++ [Rd.mk q.2 i q.1 g[i].key]).length = g.length + 1 := by simp
 have old : ∀ j (hj : j < g.length), (g ++ [Rd.mk q.2 i q.1 g[i].key])[j]'(by omega) = g[j] := fun j hj => List.getElem_append_left hj
 have new : (g ++ [Rd.mk q.2 i q.1 g[i].key])[g.length]'(by omega) = Rd.mk q.2 i q.1 g[i].key := by simp
 refine ⟨?_, ?_, fun r hr' => ?_, fun j hj h0 => ?_, fun j j' hj hj' h0 hl => ?_, fun j hj h0 => ?_, fun p hp m hm x hx => ?_⟩
 · obtain ⟨g1, g2⟩ := h.h0
   exact ⟨by omega, by rw [old 0 g1]; exact g2⟩
 · rw [List.map_append, List.map_singleton]
   exact (nodup_snoc (l := g.map Rd.key) (a := q.2)).2 (And.intro h.nd hs)
 · rcases List.mem_append.1 hr' with hr' | hr'
   · exact h.rg r hr'
   · rw [List.mem_singleton] at hr'; subst hr'; exact hr
 · by_cases hjl : j < g.length
   · rw [old j hjl]
     obtain ⟨e1, e2, e3, e4⟩ := h.ed j hjl h0
     refine ⟨by omega, e2, ?_⟩
     rw [old _ e1]
     exact ⟨e3, e4⟩
   · have e : j = g.length := by omega
     subst e
     rw [new]
     refine ⟨by show i < _; omega, hi, ?_⟩
     show g[i].key = ((g ++ [_])[i]'(by omega)).key ∧ (q.1, q.2) ∈ outF l ((g ++ [_])[i]'(by omega)).key
     rw [old i hi]
     exact ⟨rfl, List.mem_of_getElem? hq⟩
 · have hjl : j < g.length := by omega
   rw [old j hjl]
   by_cases hjl' : j' < g.length
   · rw [old j' hjl']
     exact h.lt j j' hjl hjl' h0 hl
   · have e : j' = g.length := by omega
     subst e
     rw [new]
     rcases h.up j hjl h0 with u | ⟨u1, u2, m', u3, x', u4⟩
     · exact .inl u
     · refine .inr ⟨u1, ?_⟩
       obtain ⟨w1, w2⟩ := List.getElem?_eq_some_iff.1 u4
       obtain ⟨w3, w4⟩ := List.getElem?_eq_some_iff.1 hq
       have := List.pairwise_iff_getElem.1 (outF_sorted l g[i].key) m' k w1 w3 u3
       rw [w2, w4] at this
       exact this
 · by_cases hjl : j < g.length
   · rw [old j hjl]
     rcases h.up j hjl h0 with u | ⟨u1, u2, m, u3, x', u4⟩
     · exact .inl u
     · refine .inr ⟨u1, by omega, m, by omega, x', ?_⟩
       rw [old i hi]; exact u4
   · have e : j = g.length := by omega
     subst e
     rw [new]
     refine .inr ⟨rfl, by omega, k, by omega, q.2, ?_⟩
     rw [old i hi]; exact hq
 · have hpl : p < g.length := by omega
   rw [old p hpl] at hx
   by_cases hold : p < i ∨ p = i ∧ m < k
   · obtain ⟨j, hj, c1, c2⟩ := h.cm p hpl m hold x hx
     refine ⟨j, by omega, ?_⟩
     rw [old j hj]
     exact ⟨c1, c2⟩
   · have e1 : p = i := by omega
     subst e1
     have e2 : m = k := by omega
     subst e2
     rw [hq] at hx
     cases hx
     refine ⟨g.length, by omega, ?_⟩
     rw [new]
     exact ⟨rfl, .inr (.inr ⟨rfl, Int.le_refl _⟩)⟩
theorem BInv.turn {l : List Cv} {n : Nat} {a : Int} {g : List Rd} {i : Nat} (hi : i < g.length) (h : BInv l n a g i (outF l g[i].key).length) : BInv l n a g (i + 1) 0 := by
 refine ⟨h.h0, h.nd, h.rg, h.ed, h.lt, fun j hj h0 => ?_, fun p hp m hm x hx => ?_⟩
 · rcases h.up j hj h0 with u | ⟨u1, _⟩
   · exact .inl (by omega)
   · exact .inl (by omega)
 · have hpi : p < i + 1 := by omega
   refine h.cm p hp m ?_ x hx
   by_cases e : p = i
   · subst e
     exact .inr ⟨rfl, (List.getElem?_eq_some_iff.1 hx).1⟩
   · exact .inl (by omega)
theorem BInv.size {l : List Cv} {n : Nat} {a : Int} {g : List Rd} {i k : Nat} (h : BInv l n a g i k) : g.length ≤ n := by
 have := nodup_int (n := n) h.nd fun x hx => by
   obtain ⟨r, hr, rfl⟩ := List.mem_map.1 hx
   exact h.rg r hr
 simpa using this
def pthF (g : List Rd) : Nat → Nat → List Int
 | 0, _ => []
 | f + 1, j => if j = 0 then [] else pthF g f (g.getD j zRd).par ++ [(g.getD j zRd).el]
def pth (g : List Rd) (j : Nat) : List Int := pthF g j j
section
variable {l : List Cv} {n : Nat} {a : Int} {g : List Rd} {i k : Nat}
theorem pthF_enough (h : BInv l n a g i k) : ∀ {f f' j : Nat}, j < g.length → j ≤ f → j ≤ f' → pthF g f j = pthF g f' j
 | 0, 0, j, _, _, _ => rfl
 | 0, f' + 1, j, _, h1, _ => by
   have : j = 0 := by omega
   subst this; simp [pthF]
 | f + 1, 0, j, _, _, h1 => by
   have : j = 0 := by omega
   subst this; simp [pthF]
 | f + 1, f' + 1, j, hj, h1, h2 => by
   simp only [pthF]
   by_cases h0 : j = 0
   · rw [if_pos h0, if_pos h0]
   · rw [if_neg h0, if_neg h0, getD_at hj]
     obtain ⟨e1, e2, _⟩ := h.ed j hj (by omega)
     rw [pthF_enough h (f := f) (f' := f') e1 (by omega) (by omega)]
theorem pth_zero : pth g 0 = [] := rfl
theorem pth_at (h : BInv l n a g i k) {j : Nat} (hj : j < g.length) (h0 : 0 < j) : pth g j = pth g g[j].par ++ [g[j].el] := by
 obtain ⟨e1, e2, _⟩ := h.ed j hj h0
 obtain ⟨j', rfl⟩ : ∃ j', j = j' + 1 := ⟨j - 1, by omega⟩
 unfold pth
 conv => lhs; unfold pthF
 rw [if_neg (by omega), getD_at hj, pthF_enough h (f' := g[j' + 1].par) e1 (by omega) (Nat.le_refl _)]
theorem pth_way (h : BInv l n a g i k) : ∀ (f j : Nat) (hj : j < g.length), j ≤ f → isWay l a (pth g j) g[j].key ∧ (pth g j).length ≤ j
 | 0, j, hj, hf => by
   have : j = 0 := by omega
   subst this
   obtain ⟨h0, h1⟩ := h.h0
   rw [h1]
   exact ⟨rfl, Nat.le_refl _⟩
 | f + 1, j, hj, hf => by
   by_cases h0 : j = 0
   · subst h0
     exact pth_way h f 0 hj (by omega)
   · obtain ⟨e1, e2, e3, e4⟩ := h.ed j hj (by omega)
     obtain ⟨i1, i2⟩ := pth_way h f g[j].par e1 (by omega)
     rw [pth_at h hj (by omega)]
     exact ⟨(isWay_snoc ..).2 ⟨_, i1, e4⟩, by simp; omega⟩
theorem pth_lt (h : BInv l n a g i k) : ∀ (f j j' : Nat) (hj : j < g.length) (hj' : j' < g.length), j' ≤ f → j < j' → wLt (pth g j) (pth g j')
 | 0, j, j', _, _, hf, hl => by omega
 | f + 1, j, j', hj, hj', hf, hl => by
   rw [pth_at h hj' (by omega)]
   by_cases h0 : j = 0
   · subst h0
     exact .inl (by rw [pth_zero]; simp)
   · rw [pth_at h hj (by omega)]
     obtain ⟨e1, e2, _⟩ := h.ed j hj (by omega)
     obtain ⟨e1', e2', _⟩ := h.ed j' hj' (by omega)
     rcases h.lt j j' hj hj' (by omega) hl with u | ⟨u1, u2⟩
     · exact wLt_snoc (pth_lt h f _ _ e1 e1' (by omega) u) _ _
     · rw [u1]; exact wLt_last _ u2
theorem pth_least (h : BInv l n a g g.length 0) {w : List Int} : ∀ {v : Int}, isWay l a w v → ∃ j, ∃ hj : j < g.length, g[j].key = v ∧ wLe (pth g j) w := by
 induction w using snocI with
 | h0 =>
   rintro v rfl
   obtain ⟨h0, h1⟩ := h.h0
   exact ⟨0, h0, by rw [h1], wLe_nil _⟩
 | hs w e ih =>
   intro v hw
   obtain ⟨u, g1, g2⟩ := (isWay_snoc l w e a v).1 hw
   obtain ⟨p, hp, rfl, hle⟩ := ih g1
   obtain ⟨m, hm, hq⟩ := List.getElem_of_mem g2
   obtain ⟨j, hj, c1, c2⟩ := h.cm p hp m (.inl hp) (e, v) (by rw [List.getElem?_eq_getElem hm, hq])
   refine ⟨j, hj, c1, ?_⟩
   by_cases h0 : j = 0
   · subst h0; exact wLe_nil _
   · rw [pth_at h hj (by omega)]
     obtain ⟨e1, e2, _⟩ := h.ed j hj (by omega)
     rcases c2 with c2 | c2 | ⟨c2, c3⟩
     · exact absurd c2 h0
     · exact .inr (wLt_snoc (wLt_le (pth_lt h p _ _ e1 hp (Nat.le_refl _) c2) hle) _ _)
     · rw [c2]; exact wLe_snoc hle c3
theorem reached_ref (h : BInv l n a g g.length 0) {b : Int} {j : Nat} (hj : j < g.length) (hb : g[j].key = b) : refW l a b n = some (pth g j) := by
 obtain ⟨w1, w2⟩ := pth_way h j j hj (Nat.le_refl _)
 have hs := h.size
 rw [hb] at w1
 refine refW_is ⟨w1, fun w' hw' => ?_⟩ (by omega)
 obtain ⟨j', hj', c1, c2⟩ := pth_least h hw'
 have e : j' = j := by
   have := (List.getElem_inj (h₀ := by simpa using hj') (h₁ := by simpa using hj) h.nd).1 (by simp [c1, hb])
   exact this
 rw [← e]
 exact c2
theorem unreached_ref (h : BInv l n a g g.length 0) {b : Int} (hb : b ∉ g.map Rd.key) : refW l a b n = none := refW_no fun w hw => by
 obtain ⟨j, hj, c1, _⟩ := pth_least h hw
 exact hb (List.mem_map.2 ⟨_, List.getElem_mem hj, c1⟩)
end
end Go.Proofs.Ytihbkbioafdhjaa
/- Versions: the way from a schema to another. Conditions: none. -/
namespace Go.Proofs.Ytihbkbioafdhjaa
open Go.Avc
def okA (s : Src) (a : Int) : Prop := 0 ≤ a ∧ a < s.schemas.length
instance (s : Src) (a : Int) : Decidable (okA s a) := by unfold okA; infer_instance
def encWy (x : List Int × Bool × Int) : PV := .tup [encIs x.1, .bool x.2.1, .int x.2.2]
def wayO : Option (List Int) → List Int × Bool × Int
 | some w => (w, true, 0)
 | none => ([], false, 0)
def wayR (s : Src) (a b : Int) : List Int × Bool × Int := if allTwo s = true then (if okA s a ∧ okA s b then wayO (refW s.converts a b s.schemas.length) else ([], false, 1)) else ([], false, 150)
def rM (g : List Rd) : List (Int × PV) := g.map fun r => (r.key, .agg [.int r.bef, .int r.el])
def keysG (g : List Rd) (i : Nat) : List Int := (g.map Rd.key).drop i
theorem outF_in {s : Src} (h : allTwo s = true) {u : Int} {q : Int × Int} (hq : q ∈ outF s.converts u) : okA s q.2 := by
 obtain ⟨e, x⟩ := q
 obtain ⟨i, hi, hq⟩ := outF_mem.1 hq
 have ht := allTwo_at h hi
 rcases hq with ⟨_, _, rfl⟩ | ⟨_, _, rfl⟩
 · obtain ⟨k, hk, e, _⟩ := wholeAt_in ht.2.2.1
   unfold okA; omega
 · obtain ⟨k, hk, e, _⟩ := wholeAt_in ht.2.1
   unfold okA; omega
theorem rM_keys (g : List Rd) : (rM g).map (·.1) = g.map Rd.key := by simp [rM]
theorem rM_get {g : List Rd} {x : Int} (h : x ∈ g.map Rd.key) : ∃ bf el, mget (rM g) x = some (.agg [.int bf, .int el]) := by
 induction g with
 | nil => simp at h
 | cons r g ih =>
   simp only [rM, mget, List.map_cons, List.find?_cons] at ih ⊢
   by_cases e : r.key = x
   · subst e; exact ⟨r.bef, r.el, by simp⟩
   · simp only [e, decide_false]
     refine ih ?_
     rcases List.mem_cons.1 h with h | h
     · exact absurd h.symm e
     · exact h
theorem rM_none {g : List Rd} {x : Int} (h : x ∉ g.map Rd.key) : mget (rM g) x = none := (mget_none (by rw [rM_keys]; exact h) (.int 0)).1
theorem rM_put {g : List Rd} {x : Int} (h : x ∉ g.map Rd.key) (i : Nat) (e bf : Int) : mput (rM g) x (.agg [.int bf, .int e]) = rM (g ++ [⟨x, i, e, bf⟩]) := by
 rw [(mget_none (by rw [rM_keys]; exact h) _).2]
 simp [rM]
theorem keysG_snoc {g : List Rd} {i : Nat} (h : i ≤ g.length) (r : Rd) : keysG (g ++ [r]) i = keysG g i ++ [r.key] := by
 unfold keysG
 rw [List.map_append, List.drop_append_of_le_length (by simpa using h)]
 rfl
theorem rM_at : ∀ {g : List Rd}, (g.map Rd.key).Nodup → ∀ {j : Nat} (h : j < g.length), mget (rM g) g[j].key = some (.agg [.int g[j].bef, .int g[j].el])
 | r :: g, hn, 0, h => by simp [rM, mget]
 | r :: g, hn, j + 1, h => by
   rw [List.map_cons, List.nodup_cons] at hn
   have ih := rM_at hn.2 (j := j) (by simpa using h)
   have hj : j < g.length := by simpa using h
   have hne : ¬ r.key = g[j].key := fun e => hn.1 (by rw [e]; exact List.mem_map.2 ⟨_, List.getElem_mem hj, rfl⟩)
   simp only [rM, mget, List.map_cons, List.find?_cons, List.getElem_cons_succ] at ih ⊢
   simp only [hne, decide_false]
   exact ih
theorem BInv.first {l : List Cv} {n : Nat} {a : Int} {g : List Rd} {i k : Nat} (h : BInv l n a g i k) {h0 : 0 < g.length} : g[0].key = a := by
 obtain ⟨h1, h2⟩ := h.h0
 rw [h2]
theorem BInv.notfirst {l : List Cv} {n : Nat} {a : Int} {g : List Rd} {i k : Nat} (h : BInv l n a g i k) {j : Nat} (hj : j < g.length) (h0 : 0 < j) : g[j].key ≠ a := fun e => by
 have hg0 : 0 < g.length := by omega
 have h1 : g[0].key = a := h.first
 have hj' : j < (g.map Rd.key).length := by simpa using hj
 have h0' : 0 < (g.map Rd.key).length := by simpa using hg0
 have := (List.getElem_inj (h₀ := hj') (h₁ := h0') h.nd).1 (by rw [List.getElem_map, List.getElem_map, e, h1])
 omega
theorem keysG_len (g : List Rd) (i : Nat) : (keysG g i).length = g.length - i := by simp [keysG]
theorem keysG_at {g : List Rd} {i : Nat} (h : i < g.length) : True ∧ keysG g i = g[i].key :: keysG g (i + 1) := by
 refine ⟨trivial, ?_⟩
 unfold keysG
 rw [List.drop_eq_getElem_cons (by simpa using h)]
 simp
def wSt (s : Src) (a b : Int) (g : List Rd) (i : Nat) (pre : List Int) : St :=
 ⟨[(1, .int a), (2, .int b), (6, .pure (.val (.slice none 0 0))), (10, .pure (.fn 44 [.ptr [nbPV s.converts]])), (11, .loc 11 0 0), (12, .loc 301 0 0)],
   [(11, some (.box [.mp 47])), (47, some (.mp (intK.enc (rM g)))), (301, some (.box [.lsl 300 pre.length (keysG g i).length])), (300, some (.row 1 (ints (pre ++ keysG g i))))], [11, 47, 301, 300]⟩
attribute [local irreducible] PSub Wp PSpec Le Need Both
theorem way_spec (s : Src) (hs : s.sz) (hg : s.rg) (hw : s.few) (a b : Int) : PSpec Try.prog 18 [.agg (encSrc s), .int a, .int b] (encWy (wayR s a b)) := by
 have hlc := hw.nc
 have hls := hw.ns
 have lC : (s.converts.map encCv).length = s.converts.length := List.length_map ..
 have lS : (s.schemas.map encSc).length = s.schemas.length := List.length_map ..
 have qc := check_spec s hs hg
 have qn := neighbours_spec s (by omega)
 by_cases hal : allTwo s = true
 case neg =>
   rw [show wayR s a b = ([], false, 150) from if_neg hal]
   rw [show chkE s = 150 from if_neg hal] at qc
   refine PSpec.of_vc (fun Γ => moreQ false Γ.P Γ.fx) (fun Γ => moreQ_ok) Try.func18 rfl Try.call18 (by simp) ?_
   rintro ⟨P, N, w0, X, β0, fx, y, hy, pk, df⟩ rfl rfl rfl hoff rfl; change y.on = false at hoff
   skip
   refine .inl ⟨_, qc, ?_⟩
   skip
   exact PSub.tup ⟨PSub.nil 1, PSub.refl _, PSub.refl _, trivial⟩
 rw [show chkE s = 0 from if_pos hal] at qc
 have hR : wayR s a b = if okA s a ∧ okA s b then wayO (refW s.converts a b s.schemas.length) else ([], false, 1) := if_pos hal
 rw [hR]
 by_cases hok : okA s a ∧ okA s b
 case neg =>
   rw [if_neg hok]
   unfold okA at hok
   by_cases h1 : a < 0
   · refine PSpec.of_vc (fun Γ => moreQ false Γ.P Γ.fx) (fun Γ => moreQ_ok) Try.func18 rfl Try.call18 (by simp) ?_
     rintro ⟨P, N, w0, X, β0, fx, y, hy, pk, df⟩ rfl rfl rfl hoff rfl; change y.on = false at hoff
     skip
     refine .inl ⟨_, qc, ?_⟩
     repeat' ((try conv => whnf); first|(first|refine k3 ?_ ?_|refine k4 ?_ ?_) <;> intro hb <;> (try rw [lM] at hb) <;> try (exfalso; omega)|fail)
     exact PSub.tup ⟨PSub.nil 1, PSub.refl _, PSub.refl _, trivial⟩
   by_cases h2 : (s.schemas.length : Int) ≤ a
   · refine PSpec.of_vc (fun Γ => moreQ false Γ.P Γ.fx) (fun Γ => moreQ_ok) Try.func18 rfl Try.call18 (by simp) ?_
     rintro ⟨P, N, w0, X, β0, fx, y, hy, pk, df⟩ rfl rfl rfl hoff rfl; change y.on = false at hoff
     skip
     refine .inl ⟨_, qc, ?_⟩
     repeat' ((try conv => whnf); first|(first|refine k3 ?_ ?_|refine k4 ?_ ?_) <;> intro hb <;> (try rw [lM] at hb) <;> try (exfalso; omega)|fail)
     exact PSub.tup ⟨PSub.nil 1, PSub.refl _, PSub.refl _, trivial⟩
   by_cases h3 : b < 0
   · refine PSpec.of_vc (fun Γ => moreQ false Γ.P Γ.fx) (fun Γ => moreQ_ok) Try.func18 rfl Try.call18 (by simp) ?_
     rintro ⟨P, N, w0, X, β0, fx, y, hy, pk, df⟩ rfl rfl rfl hoff rfl; change y.on = false at hoff
     skip
     refine .inl ⟨_, qc, ?_⟩
     repeat' ((try conv => whnf); first|(first|refine k3 ?_ ?_|refine k4 ?_ ?_) <;> intro hb <;> (try rw [lM] at hb) <;> try (exfalso; omega)|fail)
     exact PSub.tup ⟨PSub.nil 1, PSub.refl _, PSub.refl _, trivial⟩
   have h4 : (s.schemas.length : Int) ≤ b := by omega
   refine PSpec.of_vc (fun Γ => moreQ false Γ.P Γ.fx) (fun Γ => moreQ_ok) Try.func18 rfl Try.call18 (by simp) ?_
   rintro ⟨P, N, w0, X, β0, fx, y, hy, pk, df⟩ rfl rfl rfl hoff rfl; change y.on = false at hoff
   skip
   refine .inl ⟨_, qc, ?_⟩
   repeat' ((try conv => whnf); first|(first|refine k3 ?_ ?_|refine k4 ?_ ?_) <;> intro hb <;> (try rw [lM] at hb) <;> try (exfalso; omega)|fail)
   exact PSub.tup ⟨PSub.nil 1, PSub.refl _, PSub.refl _, trivial⟩
 rw [if_pos hok]
 obtain ⟨⟨a1, a2⟩, b1, b2⟩ := hok
 refine PSpec.of_vc (fun Γ => moreQ false Γ.P Γ.fx) (fun Γ => moreQ_ok) Try.func18 rfl Try.call18 (by simp) ?_
 rintro ⟨P, N, w0, X, β0, fx, y, hy, pk, df⟩ rfl rfl rfl hoff rfl; change y.on = false at hoff
 skip
 refine .inl ⟨_, qc, ?_⟩
 repeat' ((try conv => whnf); first|(first|refine k3 ?_ ?_|refine k4 ?_ ?_) <;> intro hb <;> (try rw [lM] at hb) <;> try (exfalso; omega)|fail)
 refine .inl ⟨_, qn, ?_⟩
 repeat' ((try conv => whnf); first|refine aq rfl ?_|fail)
 refine ⟨Int, inferInstance, intK, a, [], _, by kernel_rfl, rfl, rfl, rfl, ?_⟩
 repeat' ((try conv => whnf); first|refine aq rfl ?_|refine aq bd ?_|fail)
 refine Wp.loop (ι := List Rd × Nat × List Int) (fun x => wSt s a b x.1 x.2.1 x.2.2) (fun x => BInv s.converts s.schemas.length a x.1 x.2.1 0 ∧ x.2.1 ≤ x.1.length ∧ x.2.2.length ≤ x.2.1) (fun x => s.schemas.length + 1 - x.2.1) ([⟨a, 0, 0, 0⟩], 0, [])
   (Le.map [(301, 12), (300, 52)] ?_ ?_ rfl rfl rfl rfl) ⟨BInv.start _ a1 a2, Nat.zero_le _, Nat.le_refl _⟩ ?_
 · (repeat' (first|exact trivial|refine aq ?_ ?_|exact oq|fail))
 · (repeat' (first|exact trivial|exact rfl|refine aq ?_ ?_|refine Exists.intro _ (aq rfl ?_)|exact oq|fail))
 rintro ⟨g, i, pre⟩ ⟨hB, hi, hpre⟩
 dsimp only at hB hi hpre ⊢
 have hsz := hB.size
 have lq := keysG_len g i
 unfold wSt
 by_cases hi2 : i < g.length
 · obtain ⟨hq, hgq⟩ := keysG_at hi2
   obtain ⟨q, hqd⟩ : ∃ q, q = keysG g i := ⟨_, rfl⟩
   rw [← hqd] at lq hgq ⊢
   have lr : (ints (pre ++ q)).length = pre.length + q.length := by simp [ints]
   have a0 : (ints (pre ++ q))[pre.length + 0]? = some [PV.int g[i].key] := by rw [hgq]; simp [ints]
   have lq2 : 0 < q.length := by omega
   have he : (pre ++ q)[pre.length + Int.toNat 0]'(by simp; omega) = g[i].key := by simp [hgq]
   first | refine code_sound (more := moreQ false _ _) moreQ_ok FOK.wide _ ?_ | refine code_sound (more := moreQ false _ _) moreQ_ok (FOK.inRound _) _ ?_
   repeat' ((try conv => whnf); first|(first|refine k3 ?_ ?_|refine k4 ?_ ?_) <;> intro hb <;> (try rw [lM] at hb) <;> try (exfalso; omega)|refine aq bd ?_|refine ⟨_, _, getMapN nm, rfl, ?_⟩|fail)
   rw [he]
   refine .inl ⟨_, neighbours1_spec s.converts g[i].key, ?_⟩
   repeat' ((try conv => whnf); first|refine aq rfl ?_|fail)
   refine Wp.rangeFuncQ (σ := List Rd × List Int) (neighbours11_spec s.converts g[i].key (by omega)) [(1, .int a), (2, .int b), (6, .pure (.val (.slice none 0 0))), (10, .pure (.fn 44 [.ptr [nbPV s.converts]])), (11, .loc 11 0 0), (12, .loc 301 0 0), (62, .pure (.fn 45 [.ptr [nbPV s.converts], .ptr [.int g[i].key]]))]
     (fun x _ => [(11, some (.box [.mp 47])), (47, some (.mp (intK.enc (rM x.1)))), (301, some (.box [.lsl 300 x.2.length (keysG x.1 i).length])), (300, some (.row 1 (ints (x.2 ++ keysG x.1 i))))]) (fun _ _ => [11, 47, 301, 300]) [11, 301]
     (fun x k => BInv s.converts s.schemas.length a x.1 i k ∧ (∃ h : i < x.1.length, x.1[i].key = g[i].key) ∧ x.2.length ≤ i) (g, pre)
     (Le.of ?_ ?_ rfl rfl rfl) rfl hoff ⟨hB, ⟨hi2, rfl⟩, hpre⟩ rfl rfl (fun _ _ => rfl) rfl (fun i row hrow => ?_) ?_ ?_
   · (repeat' (first|exact trivial|refine aq ?_ ?_|exact oq|fail))
   · rw [← hqd]
     (repeat' (first|exact trivial|exact rfl|refine aq ?_ ?_|refine Exists.intro _ (aq rfl ?_)|exact oq|fail))
   · rw [List.getElem?_map, Option.map_eq_some_iff] at hrow
     obtain ⟨x, _, rfl⟩ := hrow
     rfl
   · rintro ⟨P1, N1, w1, X1, β1, fx1, y1, hy1, pk1, df1⟩ rfl rfl rfl hoff1 rfl l k row hrow hok; change y1.on = false at hoff1
     obtain ⟨g1, p1⟩ := hok
     rintro ⟨hB1, ⟨hi1, hk1⟩, hp1⟩
     dsimp only at hB1 hi1 hk1 hp1 ⊢
     rw [List.getElem?_map, Option.map_eq_some_iff] at hrow
     obtain ⟨⟨e, x⟩, hex, rfl⟩ := hrow
     have hout := outF_in hal (List.mem_of_getElem? hex)
     rw [← hk1] at hex
     have hsz1 := hB1.size
     have lq1 := keysG_len g1 i
     obtain ⟨_, hgq1⟩ := keysG_at hi1
     obtain ⟨q1, hqd1⟩ : ∃ q, q = keysG g1 i := ⟨_, rfl⟩
     rw [← hqd1] at lq1 hgq1 ⊢
     have lr1 : (ints (p1 ++ q1)).length = p1.length + q1.length := by simp [ints]
     have lq12 : 0 < q1.length := by omega
     have he1 : (p1 ++ q1)[p1.length + Int.toNat 0]'(by simp; omega) = g1[i].key := by simp [hgq1]
     first | refine code_sound (more := moreQ false _ _) moreQ_ok FOK.wide _ ?_ | refine code_sound (more := moreQ false _ _) moreQ_ok (FOK.inRound _) _ ?_
     skip
     rintro ⟨P2, N2, w2, X2, β2, fx2, y2, hy2, pk2, df2⟩ rfl rfl rfl hoff2 rfl; change y2.on = false at hoff2
     by_cases hmem : x ∈ g1.map Rd.key
     · obtain ⟨bf, el, hget⟩ := rM_get hmem
       first | refine code_sound (more := moreQ false _ _) moreQ_ok FOK.wide _ ?_ | refine code_sound (more := moreQ false _ _) moreQ_ok (FOK.inRound _) _ ?_
       skip
       refine ⟨Int, inferInstance, intK, x, rM g1, by kernel_rfl, rfl, rfl, _, _, (congrArg (fun o => Option.getD o _) hget).trans rfl, (congrArg Option.isSome hget).trans rfl, ?_⟩
       repeat' ((try conv => whnf); first|refine aq rfl ?_|fail)
       refine ⟨(g1, p1), Both.intro (Le.of trivial ?_ rfl rfl rfl) ⟨hB1.seen hi1 hex hmem, ⟨hi1, hk1⟩, hp1⟩⟩
       simp only [← hqd1]
       (repeat' (first|exact trivial|exact rfl|refine aq ?_ ?_|refine Exists.intro _ (aq rfl ?_)|exact oq|fail))
     · have hget := rM_none hmem
       first | refine code_sound (more := moreQ false _ _) moreQ_ok FOK.wide _ ?_ | refine code_sound (more := moreQ false _ _) moreQ_ok (FOK.inRound _) _ ?_
       skip
       refine ⟨Int, inferInstance, intK, x, rM g1, by kernel_rfl, rfl, rfl, _, _, (congrArg (fun o => Option.getD o _) hget).trans rfl, (congrArg Option.isSome hget).trans rfl, ?_⟩
       repeat' ((try conv => whnf); first|refine aq rfl ?_|fail)
       refine Wp.draw (more := more8 true _ _) more8_det more8_ok (FOK.inRound _) rfl (by decide +kernel) (by conv => lhs; reduce) ?_
       repeat' ((try conv => whnf); first|refine aq bd ?_|refine ⟨_, _, getMapN nm, rfl, ?_⟩|fail)
       rw [he1]
       refine ⟨Int, inferInstance, intK, x, rM g1, _, by kernel_rfl, rfl, rfl, rM_put hmem i e g1[i].key, ?_⟩
       repeat' ((try conv => whnf); first|refine aq bd ?_|fail)
       have hnew := hB1.new hi1 hex hmem hout
       have hkn := keysG_snoc (Nat.le_of_lt hi1) (Rd.mk x i e g1[i].key)
       rw [← hqd1] at hkn
       have hin : i < (g1 ++ [Rd.mk x i e g1[i].key]).length := by simp; omega
       have hkey : (g1 ++ [Rd.mk x i e g1[i].key])[i].key = g[i].key := by rw [List.getElem_append_left hi1]; exact hk1
       refine ⟨?_, ?_⟩
       · repeat' ((try conv => whnf); first|refine aq rfl ?_|fail)
         refine ⟨(g1 ++ [Rd.mk x i e g1[i].key], []), Both.intro (Le.map [(300, 83)] trivial ?_ rfl rfl rfl rfl) ⟨hnew, ⟨hin, hkey⟩, Nat.zero_le _⟩⟩
         simp only [hkn]
         (repeat' (first|exact trivial|exact rfl|refine aq ?_ ?_|refine Exists.intro _ (aq rfl ?_)|exact oq|exact SubA.lsl ls|fail))
         all_goals first
           | (refine SubA.lsl ?_; focus (simp; done))
           | (refine rowEq ?_; focus (simp [ints]; done))
       · repeat' ((try conv => whnf); first|refine aq rfl ?_|fail)
         refine ⟨(g1 ++ [Rd.mk x i e g1[i].key], p1), Both.intro (Le.map [(300, 83)] trivial ?_ rfl rfl rfl rfl) ⟨hnew, ⟨hin, hkey⟩, hp1⟩⟩
         simp only [hkn]
         (repeat' (first|exact trivial|exact rfl|refine aq ?_ ?_|refine Exists.intro _ (aq rfl ?_)|exact oq|exact SubA.lsl ls|fail))
         all_goals first
           | (refine SubA.lsl ?_; focus (simp; done))
           | (refine rowEq ?_; focus (simp [ints]; done))
   · rintro ⟨g1, p1⟩ ⟨hB1, ⟨hi1, hk1⟩, hp1⟩
     dsimp only at hB1 hi1 hk1 hp1 ⊢
     rw [List.length_map, ← hk1] at hB1
     have hB2 := hB1.turn hi1
     have hsz1 := hB1.size
     have lq1 := keysG_len g1 i
     obtain ⟨_, hgq1⟩ := keysG_at hi1
     have lq2' := keysG_len g1 (i + 1)
     obtain ⟨q1, hqd1⟩ : ∃ q, q = keysG g1 i := ⟨_, rfl⟩
     rw [← hqd1] at lq1 hgq1 ⊢
     have lr1 : (ints (p1 ++ q1)).length = p1.length + q1.length := by simp [ints]
     have lq12 : 0 < q1.length := by omega
     repeat' ((try conv => whnf); first|refine aq rfl ?_|refine aq bd ?_|fail)
     have e1 : (p1 ++ [g1[i].key]).length = p1.length + Int.toNat 1 := by simp
     have e2 : (keysG g1 (i + 1)).length = q1.length - Int.toNat 1 := by rw [lq2', lq1]; show _ = _ - 1; omega
     have e3 : p1 ++ [g1[i].key] ++ keysG g1 (i + 1) = p1 ++ q1 := by rw [hgq1]; simp
     refine ⟨(g1, i + 1, p1 ++ [g1[i].key]), ?_, ⟨hB2, hi1, by show (p1 ++ [g1[i].key]).length ≤ i + 1; rw [e1]; show p1.length + 1 ≤ i + 1; omega⟩, by show s.schemas.length + 1 - (i + 1) < s.schemas.length + 1 - i; omega⟩
     dsimp only
     rw [e1, e2, e3]
     refine Le.map [(301, 12)] ?_ ?_ rfl rfl rfl rfl
     · (repeat' (first|exact trivial|refine aq ?_ ?_|exact oq|fail))
     · (repeat' (first|exact trivial|exact rfl|refine aq ?_ ?_|refine Exists.intro _ (aq rfl ?_)|exact oq|fail))
 · have ei : i = g.length := by omega
   subst ei
   have eq0 : (keysG g g.length).length = 0 := by rw [lq]; omega
   rw [eq0]
   by_cases hmem : b ∈ g.map Rd.key
   · obtain ⟨j0, hj0, hkj0⟩ : ∃ j, ∃ h : j < g.length, g[j].key = b := by
       obtain ⟨r, hr, e⟩ := List.mem_map.1 hmem
       obtain ⟨j, hj, rfl⟩ := List.getElem_of_mem hr
       exact ⟨j, hj, e⟩
     rw [reached_ref hB hj0 hkj0]
     obtain ⟨bf, el, hget⟩ := rM_get hmem
     first | refine code_sound (more := moreQ false _ _) moreQ_ok FOK.wide _ ?_ | refine code_sound (more := moreQ false _ _) moreQ_ok (FOK.inRound _) _ ?_
     skip
     refine ⟨Int, inferInstance, intK, b, rM g, by kernel_rfl, rfl, rfl, _, _, (congrArg (fun o => Option.getD o _) hget).trans rfl, (congrArg Option.isSome hget).trans rfl, ?_⟩
     repeat' ((try conv => whnf); first|refine aq rfl ?_|fail)
     refine Wp.loop (ι := Nat × List Int) (fun x => ⟨[(1, .int a), (6, .lsl 302 0 x.2.length), (11, .loc 11 0 0), (19, .int (g.getD x.1 zRd).key)], [(11, some (.box [.mp 47])), (47, some (.mp (intK.enc (rM g)))), (302, some (.row 1 (ints x.2)))], [11, 47, 302]⟩)
       (fun x => x.1 < g.length ∧ pth g x.1 ++ x.2.reverse = pth g j0) (fun x => x.1) (j0, [])
       (Le.trans (Le.virt (k := 302) (sz := 1) rfl rfl (by omega)) (Le.of ?_ ?_ rfl rfl rfl)) ⟨hj0, by simp⟩ ?_
     · dsimp only
       rw [getD_at hj0, hkj0]
       (repeat' (first|exact trivial|refine aq ?_ ?_|exact oq|exact l6 rfl|fail))
     · (repeat' (first|exact trivial|exact rfl|refine aq ?_ ?_|refine Exists.intro _ (aq rfl ?_)|exact oq|fail))
     rintro ⟨j, acc⟩ ⟨hj, hpa⟩
     dsimp only at hj hpa ⊢
     have hpl := (pth_way hB j0 j0 hj0 (Nat.le_refl _)).2
     have hacc : acc.length ≤ 5 := by
       have := congrArg List.length hpa
       simp at this
       omega
     have lac : (ints acc).length = acc.length := by simp [ints]
     rw [getD_at hj]
     by_cases hj1 : j = 0
     · subst hj1
       have hka := BInv.first hB (h0 := hj)
       rw [pth_zero, List.nil_append] at hpa
       rw [← hpa]
       rw [hka]
       refine code_sound (more := more8 false _ _) more8_ok FOK.wide _ ?_
       repeat' ((try conv => whnf); first|(first|refine k3 ?_ ?_|refine k4 ?_ ?_) <;> intro hb <;> (try rw [lM] at hb) <;> try (exfalso; omega)|fail)
       refine .inr ⟨[(100, 302)], [.lsl 100 0 acc.length], [(100, some (.row 1 (ints acc)))], [100], [100], 0, _, reverse_spec acc (by omega), ⟨Or.inl rfl, trivial⟩, ⟨rowEq rfl, trivial⟩, ?_⟩
       skip
       refine PSub.of_eq ?_
       show PV.tup [_, _, _] = PV.tup [_, _, _]
       rw [show wayO (some acc.reverse) = (acc.reverse, true, 0) from rfl, List.drop_zero, List.take_of_length_le (by simp [ints])]
       rfl
     · have hgj := rM_at hB.nd hj
       obtain ⟨e1, e2, e3, e4⟩ := hB.ed j hj (by omega)
       have hne : g[j].key ≠ a := BInv.notfirst hB hj (by omega)
       have hpj := pth_at hB hj (by omega)
       refine code_sound (more := more8 false _ _) more8_ok FOK.wide _ ?_
       repeat' ((try conv => whnf); first|(first|refine k3 ?_ ?_|refine k4 ?_ ?_) <;> intro hb <;> (try rw [lM] at hb) <;> try (exfalso; omega)|fail)
       refine ⟨Int, inferInstance, intK, g[j].key, rM g, by kernel_rfl, rfl, rfl, _, (congrArg (fun o => Option.getD o _) hgj).trans rfl, ?_⟩
       repeat' ((try conv => whnf); first|refine aq bd ?_|fail)
       refine ⟨Int, inferInstance, intK, g[j].key, rM g, by kernel_rfl, rfl, rfl, _, (congrArg (fun o => Option.getD o _) hgj).trans rfl, ?_⟩
       skip
       have hgp : (g.getD g[j].par zRd).key = g[j].bef := by rw [getD_at e1, e3]
       refine ⟨(g[j].par, acc ++ [g[j].el]), ?_, ⟨e1, by show pth g g[j].par ++ (acc ++ [g[j].el]).reverse = pth g j0; rw [← hpa, hpj]; simp⟩, e2⟩
       dsimp only
       rw [hgp]
       refine Le.map [(302, 107)] ?_ ?_ rfl rfl rfl rfl
       · (repeat' (first|exact trivial|refine aq ?_ ?_|exact oq|exact SubA.lsl ls|fail))
         all_goals first
           | (refine SubA.lsl ?_; focus (simp [ints]; done))
           | (refine rowEq ?_; focus (simp [ints]; done))
       · (repeat' (first|exact trivial|exact rfl|refine aq ?_ ?_|refine Exists.intro _ (aq rfl ?_)|exact oq|fail))
         all_goals first
           | (refine SubA.lsl ?_; focus (simp [ints]; done))
           | (refine rowEq ?_; focus (simp [ints]; done))
   · rw [unreached_ref hB hmem]
     have hget := rM_none hmem
     first | refine code_sound (more := moreQ false _ _) moreQ_ok FOK.wide _ ?_ | refine code_sound (more := moreQ false _ _) moreQ_ok (FOK.inRound _) _ ?_
     skip
     refine ⟨Int, inferInstance, intK, b, rM g, by kernel_rfl, rfl, rfl, _, _, (congrArg (fun o => Option.getD o _) hget).trans rfl, (congrArg Option.isSome hget).trans rfl, ?_⟩
     repeat' ((try conv => whnf); first|refine aq rfl ?_|fail)
     exact PSub.tup ⟨PSub.nil 1, PSub.refl _, PSub.refl _, trivial⟩
end Go.Proofs.Ytihbkbioafdhjaa
