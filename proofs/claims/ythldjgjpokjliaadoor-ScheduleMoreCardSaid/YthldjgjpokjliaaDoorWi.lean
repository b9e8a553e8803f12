/- Schedules: the search for a round, and its step; plain. Conditions: none. -/
import Derived.Test.YthldjgjpokjliaaDoorWh
set_option linter.unusedSimpArgs false
set_option linter.unusedVariables false
set_option maxRecDepth 20000
set_option maxHeartbeats 4000000
namespace Go.Proofs.YthldjgjpokjliaaDoor
open Go.Avc
def bitsIn (a b : Nat) : Prop := ∀ q, a.testBit q = true → b.testBit q = true
theorem bitsIn.trans {a b c : Nat} (h1 : bitsIn a b) (h2 : bitsIn b c) : bitsIn a c := fun q h => h2 q (h1 q h)
theorem bitsIn.refl (a : Nat) : bitsIn a a := fun _ h => h
theorem bitsIn_or (a b : Nat) : bitsIn a (a ||| b) := fun q h => by rw [or_bit, h]; rfl
theorem dif_zero {a b : Nat} (h : dif a b = 0) : bitsIn a b := fun q hq => by
 have h1 := dif_bit a b q
 rw [h, Nat.zero_testBit, hq] at h1
 cases hb : b.testBit q with
 | true => rfl
 | false => rw [hb] at h1; cases h1
theorem ctz_bit {x : Nat} (h0 : x ≠ 0) (hx : x < 18446744073709551616) : Lib.ctz 64 x < 64 ∧ x.testBit (Lib.ctz 64 x) = true ∧ ∀ q, q < Lib.ctz 64 x → x.testBit q = false := by
 obtain ⟨m, hm, hk⟩ := Lib.ctzFrom_spec 64 x (by omega) hx
 have e : Lib.ctz 64 x = Lib.ctzFrom 64 x := by simp [Lib.ctz, h0]
 rw [e]
 refine ⟨hk, ?_, fun q hq => ?_⟩
 · generalize Lib.ctzFrom 64 x = k at hm hk
   rw [hm, Nat.testBit_two_pow_mul]
   simp
 · generalize Lib.ctzFrom 64 x = k at hm hk hq
   rw [hm, Nat.testBit_two_pow_mul]
   simp
   intro h; omega
def untried (T : Nat) : Nat := ((List.range 64).filter fun r => !T.testBit r).length
theorem untried_lt {T T1 r : Nat} (hr : r < 64) (h1 : T.testBit r = false) (h2 : bitsIn T T1) (h3 : T1.testBit r = true) : untried T1 < untried T := by
 unfold untried
 have hsub : ((List.range 64).filter fun r => !T1.testBit r).Sublist ((List.range 64).filter fun r => !T.testBit r) := by
   have : ((List.range 64).filter fun r => !T1.testBit r) = (((List.range 64).filter fun r => !T.testBit r)).filter fun r => !T1.testBit r := by
     rw [List.filter_filter]
     refine List.filter_congr fun q _ => ?_
     cases hq : T.testBit q with
     | true => rw [h2 q hq]; rfl
     | false => simp
   rw [this]
   exact List.filter_sublist
 have hle := hsub.length_le
 rcases Nat.lt_or_eq_of_le hle with h | h
 · exact h
 · exfalso
   have e := hsub.eq_of_length h
   have hm : r ∈ (List.range 64).filter fun r => !T.testBit r := List.mem_filter.2 ⟨List.mem_range.2 hr, by simp [h1]⟩
   rw [← e] at hm
   have := (List.mem_filter.1 hm).2
   rw [h3] at this
   cases this
structure UOk (al cp : List Nat) (U : List (List Nat)) : Prop where
 len : U.length = 64
 mem : ∀ r u, u ∈ U.getD r [] → u < al.length ∧ (al.getD u 0).testBit r = true
 room : ∀ r, (U.getD r []).length ≤ cp.getD r 0
def sQ (al cp : List Nat) (i T : Nat) (U : List (List Nat)) : Bool → Nat → List (List Nat) → Prop
 | false, T', U' => U' = U ∧ T' < 18446744073709551616 ∧ bitsIn T T' ∧ bitsIn (al.getD i 0) T' ∧ ∀ r, T'.testBit r = true → T.testBit r = false → cp.getD r 0 ≤ (U.getD r []).length ∧ ∀ u ∈ U.getD r [], bitsIn (al.getD u 0) T'
 | true, _, U' => UOk al cp U' ∧ U'.flatten.Perm (i :: U.flatten) ∧ ∀ r, T.testBit r = true → U'.getD r [] = U.getD r []
def LI (al cp : List Nat) (T : Nat) (U : List (List Nat)) (T1 : Nat) : Prop := T1 < 18446744073709551616 ∧ bitsIn T T1 ∧ ∀ r, T1.testBit r = true → T.testBit r = false → cp.getD r 0 ≤ (U.getD r []).length ∧ ∀ u ∈ U.getD r [], bitsIn (al.getD u 0) T1
structure MI (al cp : List Nat) (T : Nat) (U : List (List Nat)) (r k T3 : Nat) : Prop where
 lt : T3 < 18446744073709551616
 sub : bitsIn T T3
 on : T3.testBit r = true
 full : cp.getD r 0 ≤ (U.getD r []).length
 oth : ∀ q, q ≠ r → T3.testBit q = true → T.testBit q = false → cp.getD q 0 ≤ (U.getD q []).length ∧ ∀ u ∈ U.getD q [], bitsIn (al.getD u 0) T3
 done : ∀ j, j < k → bitsIn (al.getD ((U.getD r []).getD j 0) 0) T3
theorem LI.start {al cp : List Nat} {T : Nat} {U : List (List Nat)} (h : T < 18446744073709551616) : LI al cp T U T := ⟨h, bitsIn.refl T, fun r h1 h2 => by rw [h1] at h2; cases h2⟩
theorem LI.mid {al cp : List Nat} {T : Nat} {U : List (List Nat)} {T1 r : Nat} (h : LI al cp T U T1) (hr : r < 64) (hf : cp.getD r 0 ≤ (U.getD r []).length) : MI al cp T U r 0 (T1 ||| 2 ^ r) where
 lt := or_lt h.1 (pow_lt hr)
 sub := h.2.1.trans (bitsIn_or _ _)
 on := by rw [or_bit, pow_bit]; simp
 full := hf
 oth := fun q hq h1 h2 => by
   rw [or_bit, pow_bit, decide_eq_false (Ne.symm hq), Bool.or_false] at h1
   obtain ⟨g1, g2⟩ := h.2.2 q h1 h2
   exact ⟨g1, fun u hu => (g2 u hu).trans (bitsIn_or _ _)⟩
 done := fun j hj => absurd hj (Nat.not_lt_zero _)
theorem MI.next {al cp : List Nat} {T : Nat} {U : List (List Nat)} {r k T3 T4 : Nat} {U' : List (List Nat)} (h : MI al cp T U r k T3) (hq : sQ al cp ((U.getD r []).getD k 0) T3 U false T4 U') : U' = U ∧ MI al cp T U r (k + 1) T4 := by
 obtain ⟨q1, q2, q3, q4, q5⟩ := hq
 refine ⟨q1, q2, h.sub.trans q3, q3 r h.on, h.full, fun q hq h1 h2 => ?_, fun j hj => ?_⟩
 · cases h3 : T3.testBit q with
   | true =>
     obtain ⟨g1, g2⟩ := h.oth q hq h3 h2
     exact ⟨g1, fun u hu => (g2 u hu).trans q3⟩
   | false => exact q5 q h1 h3
 · rcases Nat.lt_succ_iff_lt_or_eq.1 hj with hj | rfl
   · exact (h.done j hj).trans q3
   · exact q4
theorem MI.last {al cp : List Nat} {T : Nat} {U : List (List Nat)} {r k T3 : Nat} (h : MI al cp T U r k T3) (hk : k = (U.getD r []).length) : LI al cp T U T3 := by
 refine ⟨h.lt, h.sub, fun q h1 h2 => ?_⟩
 by_cases e : q = r
 · subst e
   refine ⟨h.full, fun u hu => ?_⟩
   obtain ⟨j, hj, rfl⟩ := List.getElem_of_mem hu
   have := h.done j (by omega)
   rwa [getD_at hj] at this
 · exact h.oth q e h1 h2
theorem getD_set_eq {α : Type} {l : List α} {r : Nat} {x d : α} (h : r < l.length) : (l.set r x).getD r d = x := by simp [List.getD, h]
theorem getD_set_ne {α : Type} {l : List α} {r q : Nat} {x d : α} (h : r ≠ q) : (l.set r x).getD q d = l.getD q d := by simp [List.getD, List.getElem?_set, h]
theorem flatten_add {U : List (List Nat)} {r i : Nat} (hr : r < U.length) : (U.set r (U.getD r [] ++ [i])).flatten.Perm (i :: U.flatten) := by
 induction U generalizing r with
 | nil => simp at hr
 | cons x U ih =>
   cases r with
   | zero =>
     simp only [List.set_cons_zero, List.flatten_cons, List.getD_cons_zero]
     rw [List.append_assoc, List.singleton_append]
     exact List.perm_middle
   | succ r =>
     simp only [List.set_cons_succ, List.flatten_cons, List.getD_cons_succ]
     exact ((ih (by simpa using hr)).append_left x).trans List.perm_middle
theorem row_set {l : List Nat} {k i : Nat} (hk : k < l.length) : (l.getD k 0 :: l.set k i).Perm (i :: l) := by
 induction l generalizing k with
 | nil => simp at hk
 | cons x l ih =>
   cases k with
   | zero => simp only [List.getD_cons_zero, List.set_cons_zero]; exact List.Perm.swap ..
   | succ k =>
     simp only [List.getD_cons_succ, List.set_cons_succ]
     exact (List.Perm.swap ..).trans (((ih (by simpa using hk)).cons x).trans (List.Perm.swap ..))
theorem flatten_swap {U : List (List Nat)} {r k i : Nat} (hr : r < U.length) (hk : k < (U.getD r []).length) : ((U.getD r []).getD k 0 :: (U.set r ((U.getD r []).set k i)).flatten).Perm (i :: U.flatten) := by
 induction U generalizing r with
 | nil => simp at hr
 | cons x U ih =>
   cases r with
   | zero =>
     simp only [List.set_cons_zero, List.flatten_cons, List.getD_cons_zero] at hk ⊢
     have := (row_set (i := i) hk).append_right U.flatten
     simpa using this
   | succ r =>
     simp only [List.set_cons_succ, List.flatten_cons, List.getD_cons_succ] at hk ⊢
     have h1 := ih (by simpa using hr) hk
     refine (List.perm_middle.symm).trans ((h1.append_left x).trans List.perm_middle)
theorem sQ_add {al cp : List Nat} {i T r T2 : Nat} {U : List (List Nat)} (hU : UOk al cp U) (hi : i < al.length) (hr : r < 64) (hb : (al.getD i 0).testBit r = true) (hT : T.testBit r = false) (hf : (U.getD r []).length < cp.getD r 0) : sQ al cp i T U true T2 (U.set r (U.getD r [] ++ [i])) := by
 have hr' : r < U.length := by rw [hU.len]; exact hr
 refine ⟨⟨by rw [List.length_set]; exact hU.len, fun q u hu => ?_, fun q => ?_⟩, flatten_add hr', fun q hq => getD_set_ne fun e => by subst e; rw [hT] at hq; cases hq⟩
 · by_cases e : r = q
   · subst e
     rw [getD_set_eq hr'] at hu
     rcases List.mem_append.1 hu with hu | hu
     · exact hU.mem r u hu
     · rw [List.mem_singleton] at hu; subst hu; exact ⟨hi, hb⟩
   · rw [getD_set_ne e] at hu
     exact hU.mem q u hu
 · by_cases e : r = q
   · subst e
     rw [getD_set_eq hr', List.length_append, List.length_singleton]
     omega
   · rw [getD_set_ne e]
     exact hU.room q
theorem sQ_swap {al cp : List Nat} {i T r k T3 T4 : Nat} {U U1 : List (List Nat)} (hi : i < al.length) (hr : r < 64) (hb : (al.getD i 0).testBit r = true) (hT : T.testBit r = false) (hk : k < (U.getD r []).length) (hM : MI al cp T U r k T3)
   (hq : sQ al cp ((U.getD r []).getD k 0) T3 U true T4 U1) : U1.length = 64 ∧ U1.getD r [] = U.getD r [] ∧ sQ al cp i T U true T4 (U1.set r ((U1.getD r []).set k i)) := by
 obtain ⟨q1, q2, q3⟩ := hq
 have e1 := q3 r hM.on
 have hr' : r < U1.length := by rw [q1.len]; exact hr
 refine ⟨q1.len, e1, ⟨by rw [List.length_set]; exact q1.len, fun q u hu => ?_, fun q => ?_⟩, ?_, fun q hq => ?_⟩
 · by_cases e : r = q
   · subst e
     rw [getD_set_eq hr'] at hu
     rcases List.mem_or_eq_of_mem_set hu with hu | hu
     · exact q1.mem r u hu
     · subst hu; exact ⟨hi, hb⟩
   · rw [getD_set_ne e] at hu
     exact q1.mem q u hu
 · by_cases e : r = q
   · subst e
     rw [getD_set_eq hr', List.length_set]
     exact q1.room r
   · rw [getD_set_ne e]
     exact q1.room q
 · have h1 := flatten_swap (i := i) hr' (k := k) (by rw [e1]; exact hk)
   rw [e1] at h1 ⊢
   exact (h1.trans ((q2.cons i).trans (List.Perm.swap ..))).cons_inv
 · rw [getD_set_ne fun e => by subst e; rw [hT] at hq; cases hq]
   exact q3 q (hM.sub q hq)
end Go.Proofs.YthldjgjpokjliaaDoor
/- Schedules: services, and what a search that fails shows; plain. Conditions: none. -/
namespace Go.Proofs.YthldjgjpokjliaaDoor
open Go.Avc
theorem nodup_sub {α : Type} [DecidableEq α] : ∀ {L M : List α}, L.Nodup → (∀ x ∈ L, x ∈ M) → L.length ≤ M.length
 | [], _, _, _ => Nat.zero_le _
 | x :: L, M, h, hs => by
   have hx := hs x List.mem_cons_self
   rw [List.nodup_cons] at h
   have := nodup_sub (L := L) (M := M.erase x) h.2 fun y hy => (List.mem_erase_of_ne (fun e : y = x => h.1 (by rw [← e]; exact hy))).2 (hs y (List.mem_cons_of_mem _ hy))
   rw [List.length_erase_of_mem hx] at this
   have := List.length_pos_of_mem hx
   simp only [List.length_cons]
   omega
theorem flatMap_sub {α β : Type} {f : α → List β} {L M : List α} (h : L.Sublist M) : (L.flatMap f).Sublist (M.flatMap f) := by
 induction h with
 | slnil => exact List.Sublist.refl _
 | cons a _ ih => rw [List.flatMap_cons]; exact ih.trans (List.sublist_append_right _ _)
 | cons_cons a _ ih => rw [List.flatMap_cons, List.flatMap_cons]; exact (List.Sublist.refl _).append ih
theorem flatMap_le {α β γ : Type} {f : α → List β} {g : α → List γ} {L : List α} (h : ∀ x ∈ L, (f x).length ≤ (g x).length) : (L.flatMap f).length ≤ (L.flatMap g).length := by
 induction L with
 | nil => exact Nat.le_refl _
 | cons x L ih =>
   rw [List.flatMap_cons, List.flatMap_cons, List.length_append, List.length_append]
   have := h x List.mem_cons_self
   have := ih fun y hy => h y (List.mem_cons_of_mem _ hy)
   omega
theorem flatMap_rows {U : List (List Nat)} : (List.range U.length).flatMap (fun r => U.getD r []) = U.flatten := by
 rw [List.flatMap_def]
 congr 1
 refine List.ext_getElem (by simp) fun j h1 h2 => ?_
 simp at h1
 rw [List.getElem_map, List.getElem_range, getD_at h1]
structure isSvc (al cp l : List Nat) : Prop where
 len : l.length ≤ al.length
 can : ∀ j, j < l.length → (al.getD j 0).testBit (l.getD j 0) = true
 room : ∀ r, l.count r ≤ cp.getD r 0
def Sat (al cp : List Nat) (n : Nat) : Prop := ∃ l, isSvc al cp l ∧ l.length = n
theorem Sat.mono {al cp : List Nat} {n m : Nat} (h : Sat al cp n) (hm : m ≤ n) : Sat al cp m := by
 obtain ⟨l, hl, rfl⟩ := h
 refine ⟨l.take m, ⟨?_, fun j hj => ?_, fun r => ?_⟩, by rw [List.length_take]; omega⟩
 · rw [List.length_take]; have := hl.len; omega
 · rw [List.length_take] at hj
   have := hl.can j (by omega)
   rw [getD_at (d := 0) (show j < l.length by omega)] at this
   rw [getD_at (d := 0) (show j < (l.take m).length by rw [List.length_take]; omega), List.getElem_take]
   exact this
 · exact Nat.le_trans ((List.take_sublist m l).count_le r) (hl.room r)
theorem idx_count {l : List Nat} {r : Nat} {S : List Nat} (hn : S.Nodup) (hl : ∀ j ∈ S, j < l.length ∧ l.getD j 0 = r) : S.length ≤ l.count r := by
 have h1 : ((List.range l.length).filter fun j => l.getD j 0 == r).length = l.count r := by
   clear hn hl
   induction l with
   | nil => rfl
   | cons x l ih =>
     rw [List.length_cons, List.range_succ_eq_map, List.filter_cons, List.count_cons, ← ih, List.filter_map, List.getD_cons_zero]
     have e : ((fun j => (x :: l).getD j 0 == r) ∘ Nat.succ) = fun j => l.getD j 0 == r := by funext j; simp
     rw [e]
     split <;> simp
 rw [← h1]
 refine nodup_sub hn fun j hj => List.mem_filter.2 ⟨List.mem_range.2 (hl j hj).1, beq_iff_eq.2 (hl j hj).2⟩
theorem no_svc {al cp : List Nat} {i T' : Nat} {U U' : List (List Nat)} (hU : UOk al cp U) (hp : U.flatten.Perm (List.range i)) (hq : sQ al cp i 0 U false T' U') : ¬ Sat al cp (i + 1) := by
 rintro ⟨l, hl, hli⟩
 obtain ⟨rfl, q2, q3, q4, q5⟩ := hq
 have q5 := fun r h => q5 r h (Nat.zero_testBit r)
 obtain ⟨R, hR⟩ : ∃ R, R = (List.range 64).filter fun r => T'.testBit r := ⟨_, rfl⟩
 have hRm : ∀ r, r ∈ R ↔ T'.testBit r = true := fun r => by
   rw [hR, List.mem_filter]
   refine ⟨fun h => h.2, fun h => ⟨List.mem_range.2 ?_, h⟩⟩
   rcases Nat.lt_or_ge r 64 with h1 | h1
   · exact h1
   · have := Nat.testBit_lt_two_pow (x := T') (i := r) (Nat.lt_of_lt_of_le q2 (by rw [show 18446744073709551616 = 2 ^ 64 from rfl]; exact Nat.pow_le_pow_right (by decide) h1))
     rw [h] at this; cases this
 obtain ⟨S, hS⟩ : ∃ S, S = i :: R.flatMap fun r => U'.getD r [] := ⟨_, rfl⟩
 have hsub : (R.flatMap fun r => U'.getD r []).Sublist U'.flatten := by
   rw [← flatMap_rows, hU.len, hR]
   exact flatMap_sub List.filter_sublist
 have hnd : U'.flatten.Nodup := hp.nodup_iff.2 List.nodup_range
 have hlt : ∀ j ∈ R.flatMap (fun r => U'.getD r []), j < i := fun j hj => List.mem_range.1 (hp.mem_iff.1 (hsub.subset hj))
 have hSn : S.Nodup := by
   rw [hS, List.nodup_cons]
   exact ⟨fun h => Nat.lt_irrefl _ (hlt i h), hsub.nodup hnd⟩
 have hSm : ∀ j ∈ S, j < l.length ∧ bitsIn (al.getD j 0) T' := fun j hj => by
   rw [hS] at hj
   rcases List.mem_cons.1 hj with rfl | hj
   · exact ⟨by omega, q4⟩
   · refine ⟨by have := hlt j hj; omega, ?_⟩
     obtain ⟨r, hr, hjr⟩ := List.mem_flatMap.1 hj
     exact (q5 r ((hRm r).1 hr)).2 j hjr
 have h1 : S.length ≤ (R.flatMap fun r => S.filter fun j => l.getD j 0 == r).length := nodup_sub hSn fun j hj => by
   obtain ⟨g1, g2⟩ := hSm j hj
   exact List.mem_flatMap.2 ⟨l.getD j 0, (hRm _).2 (g2 _ (hl.can j g1)), List.mem_filter.2 ⟨hj, by simp⟩⟩
 have h2 : (R.flatMap fun r => S.filter fun j => l.getD j 0 == r).length ≤ (R.flatMap fun r => U'.getD r []).length := flatMap_le fun r hr => by
   refine Nat.le_trans (idx_count (l := l) (r := r) (hSn.filter _) fun j hj => ?_) (Nat.le_trans (hl.room r) (q5 r ((hRm r).1 hr)).1)
   obtain ⟨g1, g2⟩ := List.mem_filter.1 hj
   exact ⟨(hSm j g1).1, by simpa using g2⟩
 rw [hS] at h1
 rw [← hS] at h1
 have : S.length = (R.flatMap fun r => U'.getD r []).length + 1 := by rw [hS]; rfl
 omega
theorem has_svc {al cp : List Nat} {i : Nat} {U : List (List Nat)} (hU : UOk al cp U) (hp : U.flatten.Perm (List.range i)) (hi : i ≤ al.length) : Sat al cp i := by
 have hrow : ∀ j, j < i → ∃ r, j ∈ U.getD r [] := fun j hj => by
   have : j ∈ U.flatten := hp.mem_iff.2 (List.mem_range.2 hj)
   obtain ⟨x, hx, hjx⟩ := List.mem_flatten.1 this
   obtain ⟨r, hr, rfl⟩ := List.getElem_of_mem hx
   exact ⟨r, by rw [getD_at hr]; exact hjx⟩
 have : ∀ j, ∃ r, j < i → j ∈ U.getD r [] := fun j => by
   by_cases h : j < i
   · obtain ⟨r, hr⟩ := hrow j h; exact ⟨r, fun _ => hr⟩
   · exact ⟨0, fun h' => absurd h' h⟩
 obtain ⟨g, hg⟩ := Classical.axiomOfChoice this
 refine ⟨(List.range i).map g, ⟨by simpa using hi, fun j hj => ?_, fun r => ?_⟩, by simp⟩
 · have hj' : j < i := by simpa using hj
   rw [getD_at hj, List.getElem_map, List.getElem_range]
   exact (hU.mem _ _ (hg j hj')).2
 · refine Nat.le_trans ?_ (hU.room r)
   have e : ((List.range i).map g).count r = ((List.range i).filter fun j => g j == r).length := by
     rw [List.count_eq_length_filter, List.filter_map, List.length_map]
     rfl
   rw [e]
   refine nodup_sub (List.nodup_range.filter _) fun j hj => ?_
   obtain ⟨g1, g2⟩ := List.mem_filter.1 hj
   have := hg j (List.mem_range.1 g1)
   rwa [beq_iff_eq.1 g2] at this
open Classical in
noncomputable def srvU (al cp : List Nat) : Nat → Nat
 | 0 => 0
 | n + 1 => if Sat al cp (n + 1) then n + 1 else srvU al cp n
noncomputable def srvL (al cp : List Nat) : Nat := srvU al cp al.length
theorem Sat.zero (al cp : List Nat) : Sat al cp 0 := ⟨[], ⟨Nat.zero_le _, fun j hj => absurd hj (Nat.not_lt_zero _), fun r => by simp⟩, rfl⟩
theorem srvU_spec (al cp : List Nat) : ∀ n, Sat al cp (srvU al cp n) ∧ srvU al cp n ≤ n ∧ ∀ m, m ≤ n → Sat al cp m → m ≤ srvU al cp n
 | 0 => ⟨Sat.zero al cp, Nat.le_refl _, fun m hm _ => hm⟩
 | n + 1 => by
   unfold srvU
   split
   · rename_i h
     exact ⟨h, Nat.le_refl _, fun m hm _ => hm⟩
   · rename_i h
     obtain ⟨h1, h2, h3⟩ := srvU_spec al cp n
     refine ⟨h1, by omega, fun m hm hs => ?_⟩
     rcases Nat.lt_or_eq_of_le hm with hm | rfl
     · exact h3 m (by omega) hs
     · exact absurd hs h
theorem srvL_sat (al cp : List Nat) : Sat al cp (srvL al cp) := (srvU_spec al cp al.length).1
theorem srvL_le (al cp : List Nat) : srvL al cp ≤ al.length := (srvU_spec al cp al.length).2.1
theorem Sat.le {al cp : List Nat} {n : Nat} (h : Sat al cp n) : n ≤ srvL al cp := (srvU_spec al cp al.length).2.2 n (by obtain ⟨l, hl, rfl⟩ := h; exact hl.len) h
theorem srvL_eq {al cp : List Nat} {n : Nat} (h : Sat al cp n) (h2 : ¬ Sat al cp (n + 1)) : srvL al cp = n := by
 refine Nat.le_antisymm ?_ h.le
 rcases Nat.lt_or_ge n (srvL al cp) with h3 | h3
 · exact absurd ((srvL_sat al cp).mono h3) h2
 · exact h3
end Go.Proofs.YthldjgjpokjliaaDoor
/- Schedules: the plan's copies and masks, out of the stock; plain. Conditions: none. -/
namespace Go.Proofs.YthldjgjpokjliaaDoor
open Go.Avc
theorem usM_fold (n : Nd) : ∀ (S : List Sk) (x r : Nat), (∀ s ∈ S, 0 ≤ s.round) → (S.foldl (usS n) x).testBit r = (x.testBit r || S.any fun s => decide (s.round = (r : Int)) && usesB n s)
 | [], x, r, _ => by simp
 | s :: S, x, r, h => by
   rw [List.foldl_cons, usM_fold n S _ r fun y hy => h y (List.mem_cons_of_mem _ hy), List.any_cons, ← Bool.or_assoc]
   congr 1
   have hs := h s List.mem_cons_self
   unfold usS
   by_cases hu : usesB n s = true
   · rw [if_pos hu, or_bit, pow_bit, hu, Bool.and_true]
     congr 1
     exact decide_eq_decide.2 ⟨fun e => by omega, fun e => by omega⟩
   · rw [if_neg hu]
     simp [hu]
theorem usM_bit {S : List Sk} (n : Nd) (r : Nat) (h : ∀ s ∈ S, 0 ≤ s.round) : (usM S n).testBit r = S.any fun s => decide (s.round = (r : Int)) && usesB n s := by
 unfold usM
 rw [usM_fold n S 0 r h, Nat.zero_testBit, Bool.false_or]
theorem usM_lt {S : List Sk} (n : Nd) (h : ∀ s ∈ S, 0 ≤ s.round ∧ s.round < 64) : usM S n < 18446744073709551616 := by
 have := usT_lt (n := n) h S.length (Nat.le_refl _)
 unfold usT at this
 rwa [List.take_length] at this
def cpF (c : List Nat) (s : Sk) : List Nat := c.set s.round.toNat s.copies.toNat
def cpS (S : List Sk) : List Nat := S.foldl cpF (List.replicate 64 0)
theorem cpF_fold : ∀ (S : List Sk) (c : List Nat), (S.foldl cpF c).length = c.length
 | [], _ => rfl
 | s :: S, c => by rw [List.foldl_cons, cpF_fold S]; unfold cpF; exact List.length_set ..
theorem cpS_len (S : List Sk) : (cpS S).length = 64 := by unfold cpS; rw [cpF_fold]; simp
def rdist (S : List Sk) : Prop := S.Pairwise fun a b => a.round < b.round
theorem cpF_get : ∀ (S : List Sk) (c : List Nat) (r : Nat), rdist S → (∀ s ∈ S, 0 ≤ s.round ∧ s.round < c.length) → (S.foldl cpF c).getD r 0 = ((S.find? fun s => decide (s.round = (r : Int))).map fun s => s.copies.toNat).getD (c.getD r 0)
 | [], _, _, _, _ => rfl
 | s :: S, c, r, hd, h => by
   have hd := List.pairwise_cons.1 hd
   have hs := h s List.mem_cons_self
   rw [List.foldl_cons, cpF_get S _ r hd.2 fun y hy => by unfold cpF; rw [List.length_set]; exact h y (List.mem_cons_of_mem _ hy), List.find?_cons]
   by_cases e : s.round = (r : Int)
   · have hn : S.find? (fun s => decide (s.round = (r : Int))) = none := List.find?_eq_none.2 fun y hy => by
       have := hd.1 y hy
       simp; omega
     rw [hn, decide_eq_true e]
     show (cpF c s).getD r 0 = s.copies.toNat
     unfold cpF
     rw [show s.round.toNat = r by omega, getD_set_eq (by omega)]
   · rw [decide_eq_false e]
     congr 1
     unfold cpF
     rw [getD_set_ne (by omega)]
theorem cpS_get {S : List Sk} (r : Nat) (hd : rdist S) (h : ∀ s ∈ S, 0 ≤ s.round ∧ s.round < 64) : (cpS S).getD r 0 = ((S.find? fun s => decide (s.round = (r : Int))).map fun s => s.copies.toNat).getD 0 := by
 unfold cpS
 rw [cpF_get S _ r hd (by simpa using h)]
 congr 1
 rw [List.getD_eq_getElem?_getD, List.getElem?_replicate]
 split <;> rfl
def lexN : List Nat → List Nat → Prop
 | a :: l, b :: m => a < b ∨ a = b ∧ lexN l m
 | _, _ => False
theorem lexN_irr : ∀ l : List Nat, ¬ lexN l l
 | [] => id
 | a :: l => fun h => by
   rcases h with h | ⟨_, h⟩
   · exact Nat.lt_irrefl _ h
   · exact lexN_irr l h
theorem lexN_trans : ∀ {l m k : List Nat}, lexN l m → lexN m k → lexN l k
 | a :: l, b :: m, c :: k, h1, h2 => by
   rcases h1 with h1 | ⟨rfl, h1⟩
   · rcases h2 with h2 | ⟨rfl, h2⟩
     · exact .inl (Nat.lt_trans h1 h2)
     · exact .inl h1
   · rcases h2 with h2 | ⟨rfl, h2⟩
     · exact .inl h2
     · exact .inr ⟨rfl, lexN_trans h1 h2⟩
def leastS (al cp : List Nat) (n : Nat) (l : List Nat) : Prop := isSvc al cp l ∧ l.length = n ∧ ∀ m, isSvc al cp m → m.length = n → l = m ∨ lexN l m
theorem leastS_one {al cp : List Nat} {n : Nat} {l m : List Nat} (hl : leastS al cp n l) (hm : leastS al cp n m) : l = m := by
 rcases hl.2.2 m hm.1 hm.2.1 with h | h
 · exact h
 · rcases hm.2.2 l hl.1 hl.2.1 with h2 | h2
   · exact h2.symm
   · exact absurd (lexN_trans h h2) (lexN_irr l)
end Go.Proofs.YthldjgjpokjliaaDoor
/- Schedules: a service whose first rounds are fixed; the least service is found by fixing one round after the other; plain. Conditions: none. -/
namespace Go.Proofs.YthldjgjpokjliaaDoor
open Go.Avc
def fxd (al l : List Nat) : List Nat := (l.map fun r => 2 ^ r) ++ al.drop l.length
theorem fxd_len {al l : List Nat} (h : l.length ≤ al.length) : (fxd al l).length = al.length := by simp [fxd]; omega
theorem fxd_lo {al l : List Nat} {j : Nat} (h : j < l.length) : (fxd al l).getD j 0 = 2 ^ (l.getD j 0) := by
 unfold fxd
 rw [List.getD_eq_getElem?_getD, List.getElem?_append_left (by simpa using h), List.getElem?_map, getD_at h, List.getElem?_eq_getElem h]
 rfl
theorem fxd_hi {al l : List Nat} {j : Nat} (h : l.length ≤ j) : (fxd al l).getD j 0 = al.getD j 0 := by
 unfold fxd
 rw [List.getD_eq_getElem?_getD, List.getElem?_append_right (by simpa using h), List.length_map, List.getElem?_drop, show l.length + (j - l.length) = j by omega, ← List.getD_eq_getElem?_getD]
theorem fxd_next {al l : List Nat} {r : Nat} (h : l.length < al.length) : fxd al (l ++ [r]) = (fxd al l).set l.length (2 ^ r) := by
 unfold fxd
 rw [List.length_append, List.length_singleton, List.map_append, List.set_append_right _ _ (by simp), List.length_map, Nat.sub_self, List.drop_eq_getElem_cons h, List.set_cons_zero, List.append_assoc]
 rfl
theorem take_iff {l m : List Nat} (h : l.length ≤ m.length) : m.take l.length = l ↔ ∀ j, j < l.length → m.getD j 0 = l.getD j 0 := by
 constructor
 · intro e j hj
   have h1 : (m.take l.length).getD j 0 = m.getD j 0 := by
     rw [getD_at (by rw [List.length_take]; omega), List.getElem_take, getD_at (by omega)]
   rw [← h1, e]
 · intro e
   refine List.ext_getElem (by rw [List.length_take]; omega) fun j h1 h2 => ?_
   have := e j h2
   rw [getD_at (by omega : j < m.length), getD_at h2] at this
   rw [List.getElem_take, this]
theorem fxd_svc {al cp l m : List Nat} (hl : l.length ≤ al.length) (hb : ∀ j, j < l.length → (al.getD j 0).testBit (l.getD j 0) = true) (hm : l.length ≤ m.length) : isSvc (fxd al l) cp m ↔ isSvc al cp m ∧ m.take l.length = l := by
 rw [take_iff hm]
 constructor
 · intro h
   have e : ∀ j, j < l.length → m.getD j 0 = l.getD j 0 := fun j hj => by
     have := h.can j (by omega)
     rw [fxd_lo hj, pow_bit] at this
     exact (of_decide_eq_true this).symm
   refine ⟨⟨by rw [← fxd_len hl]; exact h.len, fun j hj => ?_, h.room⟩, e⟩
   rcases Nat.lt_or_ge j l.length with h1 | h1
   · rw [e j h1]; exact hb j h1
   · have := h.can j hj
     rwa [fxd_hi h1] at this
 · rintro ⟨h, e⟩
   refine ⟨by rw [fxd_len hl]; exact h.len, fun j hj => ?_, h.room⟩
   rcases Nat.lt_or_ge j l.length with h1 | h1
   · rw [fxd_lo h1, e j h1, pow_bit]; simp
   · rw [fxd_hi h1]; exact h.can j hj
structure Grd (al cp l : List Nat) : Prop where
 ex : ∃ m, isSvc al cp m ∧ m.length = al.length ∧ m.take l.length = l
 least : ∀ m, isSvc al cp m → m.length = al.length → l = m.take l.length ∨ lexN l (m.take l.length)
theorem Grd.len {al cp l : List Nat} (h : Grd al cp l) : l.length ≤ al.length := by
 obtain ⟨m, _, h2, h3⟩ := h.ex
 have := congrArg List.length h3
 rw [List.length_take] at this
 omega
theorem Grd.bit {al cp l : List Nat} (h : Grd al cp l) : ∀ j, j < l.length → (al.getD j 0).testBit (l.getD j 0) = true := fun j hj => by
 have hl := h.len
 obtain ⟨m, h1, h2, h3⟩ := h.ex
 rw [← (take_iff (by omega)).1 h3 j hj]
 exact h1.can j (by omega)
theorem Grd.start {al cp : List Nat} (h : Sat al cp al.length) : Grd al cp [] := by
 obtain ⟨m, h1, h2⟩ := h
 exact ⟨⟨m, h1, h2, rfl⟩, fun m _ _ => .inl rfl⟩
theorem Grd.test {al cp l : List Nat} (h : Grd al cp l) (hl : l.length < al.length) {r : Nat} (hr : (al.getD l.length 0).testBit r = true) : srvL (fxd al (l ++ [r])) cp = al.length ↔ ∃ m, isSvc al cp m ∧ m.length = al.length ∧ m.take (l.length + 1) = l ++ [r] := by
 have hlen : (l ++ [r]).length ≤ al.length := by simp; omega
 have hb : ∀ j, j < (l ++ [r]).length → (al.getD j 0).testBit ((l ++ [r]).getD j 0) = true := fun j hj => by
   rw [List.length_append, List.length_singleton] at hj
   rcases Nat.lt_succ_iff_lt_or_eq.1 hj with h1 | rfl
   · rw [show (l ++ [r]).getD j 0 = l.getD j 0 by simp [List.getD, List.getElem?_append_left h1]]
     exact h.bit j h1
   · rw [show (l ++ [r]).getD l.length 0 = r by simp [List.getD]]
     exact hr
 constructor
 · intro e
   obtain ⟨m, h1, h2⟩ := srvL_sat (fxd al (l ++ [r])) cp
   rw [e] at h2
   obtain ⟨g1, g2⟩ := (fxd_svc hlen hb (by omega)).1 h1
   exact ⟨m, g1, h2, by rw [List.length_append, List.length_singleton] at g2; exact g2⟩
 · rintro ⟨m, h1, h2, h3⟩
   have h4 : isSvc (fxd al (l ++ [r])) cp m := (fxd_svc hlen hb (by omega)).2 ⟨h1, by rw [List.length_append, List.length_singleton]; exact h3⟩
   refine Nat.le_antisymm (by have := srvL_le (fxd al (l ++ [r])) cp; rwa [fxd_len hlen] at this) ?_
   exact Sat.le ⟨m, h4, h2⟩
theorem lexN_snoc {l : List Nat} {a b : Nat} (h : a < b) : lexN (l ++ [a]) (l ++ [b]) := by
 induction l with
 | nil => exact .inl h
 | cons x l ih => exact .inr ⟨rfl, ih⟩
theorem lexN_app : ∀ {l m : List Nat} {a b : Nat}, lexN l m → l.length = m.length → lexN (l ++ [a]) (m ++ [b])
 | x :: l, y :: m, a, b, h, hl => by
   rcases h with h | ⟨rfl, h⟩
   · exact .inl h
   · exact .inr ⟨rfl, lexN_app h (by simpa using hl)⟩
theorem Grd.next {al cp l : List Nat} (h : Grd al cp l) (hl : l.length < al.length) {r : Nat} (hr : ∃ m, isSvc al cp m ∧ m.length = al.length ∧ m.take (l.length + 1) = l ++ [r])
   (hq : ∀ q, q < r → ¬ ∃ m, isSvc al cp m ∧ m.length = al.length ∧ m.take (l.length + 1) = l ++ [q]) : Grd al cp (l ++ [r]) := by
 refine ⟨by rw [List.length_append, List.length_singleton]; exact hr, fun m h1 h2 => ?_⟩
 rw [List.length_append, List.length_singleton]
 have hm : l.length < m.length := by omega
 have e : m.take (l.length + 1) = m.take l.length ++ [m[l.length]] := List.take_succ_eq_append_getElem hm
 rw [e]
 rcases h.least m h1 h2 with h3 | h3
 · rw [← h3] at e ⊢
   rcases Nat.lt_trichotomy r m[l.length] with h4 | h4 | h4
   · exact .inr (lexN_snoc h4)
   · left; rw [h4]
   · exact absurd ⟨m, h1, h2, e⟩ (hq _ h4)
 · exact .inr (lexN_app h3 (by rw [List.length_take]; omega))
theorem Grd.last {al cp l : List Nat} (h : Grd al cp l) (hl : l.length = al.length) : leastS al cp al.length l := by
 have ht : ∀ m : List Nat, m.length = al.length → m.take l.length = m := fun m hm => by rw [hl, ← hm, List.take_length]
 obtain ⟨m, h1, h2, h3⟩ := h.ex
 rw [ht m h2] at h3
 subst h3
 refine ⟨h1, h2, fun k k1 k2 => ?_⟩
 have := h.least k k1 k2
 rwa [ht k k2] at this
end Go.Proofs.YthldjgjpokjliaaDoor
/- Schedules: the lowest bit taken away; plain. Conditions: none. -/
namespace Go.Proofs.YthldjgjpokjliaaDoor
open Go.Avc
theorem clear_bit {x : Nat} (h0 : x ≠ 0) (hx : x < 18446744073709551616) (q : Nat) : (x &&& (x - 1)).testBit q = (x.testBit q && decide (q ≠ Lib.ctz 64 x)) := by
 obtain ⟨m, hm, hk⟩ := Lib.ctzFrom_spec 64 x (by omega) hx
 have e : Lib.ctz 64 x = Lib.ctzFrom 64 x := by simp [Lib.ctz, h0]
 rw [e]
 generalize Lib.ctzFrom 64 x = k at hm hk
 have hp : 0 < 2 ^ k := Nat.pow_pos (by decide)
 rw [Nat.testBit_and]
 rcases Nat.lt_trichotomy q k with h | h | h
 · have : x.testBit q = false := by
     rw [hm, Nat.testBit_two_pow_mul]
     simp; intro h2; omega
   rw [this, Bool.false_and, Bool.false_and]
 · subst h
   have : (x - 1).testBit q = false := by
     have h1 : (x - 1) / 2 ^ q = 2 * m := by
       rw [hm, Nat.mul_add, Nat.mul_one]
       rw [show 2 ^ q * (2 * m) + 2 ^ q - 1 = (2 ^ q - 1) + 2 ^ q * (2 * m) by omega, Nat.add_mul_div_left _ _ hp, Nat.div_eq_of_lt (by omega)]
       omega
     have h2 := Nat.testBit_div_two_pow (x := x - 1) (i := 0) (n := q)
     rw [h1, Nat.zero_add, Nat.testBit_zero] at h2
     rw [← h2]
     simp
   rw [this, Bool.and_false]
   simp
 · obtain ⟨j, rfl⟩ : ∃ j, q = k + 1 + j := ⟨q - (k + 1), by omega⟩
   have h1 : x / 2 ^ (k + 1) = m := by
     rw [hm, Nat.pow_succ, Nat.mul_add, Nat.mul_one, ← Nat.mul_assoc, Nat.add_comm, Nat.add_mul_div_left _ _ (by omega), Nat.div_eq_of_lt (by omega)]
     omega
   have h2 : (x - 1) / 2 ^ (k + 1) = m := by
     rw [hm, Nat.pow_succ, Nat.mul_add, Nat.mul_one, ← Nat.mul_assoc]
     rw [show 2 ^ k * 2 * m + 2 ^ k - 1 = (2 ^ k - 1) + 2 ^ k * 2 * m by omega, Nat.add_mul_div_left _ _ (by omega), Nat.div_eq_of_lt (by omega)]
     omega
   have g1 := Nat.testBit_div_two_pow (x := x) (i := j) (n := k + 1)
   have g2 := Nat.testBit_div_two_pow (x := x - 1) (i := j) (n := k + 1)
   rw [h1] at g1
   rw [h2] at g2
   rw [Nat.add_comm j] at g1 g2
   rw [← g1, ← g2, Bool.and_self, decide_eq_true (by omega), Bool.and_true]
end Go.Proofs.YthldjgjpokjliaaDoor
