/- Schedules: where there is a service there is a least one; plain. Conditions: none. -/
import Derived.Test.YthldjgjpokjliaaDoorWj
import Derived.Test.YthldjgjpokjliaaDoorWd
set_option linter.unusedSimpArgs false
set_option linter.unusedVariables false
set_option maxRecDepth 20000
set_option maxHeartbeats 4000000
namespace Go.Proofs.YthldjgjpokjliaaDoor
open Go.Avc
theorem least_nat {p : Nat → Prop} : ∀ n, p n → ∃ r, p r ∧ ∀ q, q < r → ¬ p q := by
 intro n
 induction n using Nat.strongRecOn with
 | ind n ih =>
   intro h
   by_cases h2 : ∃ q, q < n ∧ p q
   · obtain ⟨q, h3, h4⟩ := h2
     exact ih q h3 h4
   · exact ⟨n, h, fun q hq hp => h2 ⟨q, hq, hp⟩⟩
end Go.Proofs.YthldjgjpokjliaaDoor
/- Schedules: the reference's service; plain. Conditions: none. -/
namespace Go.Proofs.YthldjgjpokjliaaDoor
open Go.Avc
def decS (s : Sk) : Sk := ⟨s.round, s.copies - 1, s.size⟩
def decAt (S : List Sk) (i : Nat) : List Sk := S.modify i decS
theorem decAt_len (S : List Sk) (i : Nat) : (decAt S i).length = S.length := List.length_modify ..
theorem decAt_get {S : List Sk} {i j : Nat} (h : j < S.length) : (decAt S i)[j]'(by rw [decAt_len]; exact h) = if i = j then decS S[j] else S[j] := List.getElem_modify ..
theorem decAt_map {α : Type} {f : Sk → α} (hf : ∀ s, f (decS s) = f s) (S : List Sk) (i : Nat) : (decAt S i).map f = S.map f := by
 refine List.ext_getElem (by simp [decAt_len]) fun j h1 h2 => ?_
 have hj : j < S.length := by simpa using h2
 rw [List.getElem_map, List.getElem_map, decAt_get hj]
 split
 · exact hf _
 · rfl
def canS (n : Nd) (s : Sk) : Prop := ¬ s.copies = 0 ∧ usesB n s = true
instance (n : Nd) (s : Sk) : Decidable (canS n s) := inferInstanceAs (Decidable (_ ∧ _))
def svcR : List Nd → List Sk → Option (List Int)
 | [], _ => some []
 | n :: D, S => (List.range S.length).findSome? fun i => match S[i]? with
   | some s => if canS n s then (svcR D (decAt S i)).map (s.round :: ·) else none
   | none => none
theorem isSvc_cons {a r : Nat} {al cp l : List Nat} (hr : r < cp.length) : isSvc (a :: al) cp (r :: l) ↔ a.testBit r = true ∧ 0 < cp.getD r 0 ∧ isSvc al (cp.set r (cp.getD r 0 - 1)) l := by
 constructor
 · rintro ⟨h1, h2, h3⟩
   have h0 := h3 r
   rw [List.count_cons_self] at h0
   refine ⟨h2 0 (by simp), by omega, by simpa using h1, fun j hj => h2 (j + 1) (by simpa using hj), fun q => ?_⟩
   by_cases e : r = q
   · subst e
     rw [getD_set_eq hr]
     omega
   · rw [getD_set_ne e]
     have := h3 q
     rw [List.count_cons_of_ne e] at this
     exact this
 · rintro ⟨h1, h2, h3, h4, h5⟩
   refine ⟨by simpa using h3, fun j hj => ?_, fun q => ?_⟩
   · cases j with
     | zero => exact h1
     | succ j => exact h4 j (by simpa using hj)
   · by_cases e : r = q
     · subst e
       have := h5 r
       rw [getD_set_eq hr] at this
       rw [List.count_cons_self]
       omega
     · have := h5 q
       rw [getD_set_ne e] at this
       rw [List.count_cons_of_ne e]
       exact this
def rok (S : List Sk) : Prop := rdist S ∧ ∀ s ∈ S, 0 ≤ s.round ∧ s.round < 64
theorem rdist_lt {S : List Sk} (h : rdist S) {i j : Nat} (hi : i < S.length) (hj : j < S.length) (hij : i < j) : S[i].round < S[j].round := List.pairwise_iff_getElem.1 h i j hi hj hij
theorem cpS_at {S : List Sk} (h : rok S) {i : Nat} (hi : i < S.length) : (cpS S).getD S[i].round.toNat 0 = S[i].copies.toNat := by
 have hr := h.2 _ (List.getElem_mem hi)
 rw [cpS_get _ h.1 h.2, show ((S[i].round.toNat : Nat) : Int) = S[i].round by omega]
 have : S.find? (fun s => decide (s.round = S[i].round)) = some S[i] := List.find?_eq_some_iff_getElem.2 ⟨by simp, i, hi, rfl, fun j hj => by
   have := rdist_lt h.1 (show j < S.length by omega) hi hj
   simp; omega⟩
 rw [this]
 rfl
theorem cpS_no {S : List Sk} (h : rok S) {q : Nat} (hq : ∀ s ∈ S, s.round ≠ (q : Int)) : (cpS S).getD q 0 = 0 := by
 rw [cpS_get _ h.1 h.2, List.find?_eq_none.2 fun s hs => by simpa using hq s hs]
 rfl
theorem rok_dec {S : List Sk} (h : rok S) (i : Nat) : rok (decAt S i) := by
 have e := decAt_map (f := Sk.round) (fun _ => rfl) S i
 refine ⟨?_, fun s hs => ?_⟩
 · have : (S.map Sk.round).Pairwise (· < ·) := by rw [List.pairwise_map]; exact h.1
   rw [← e, List.pairwise_map] at this
   exact this
 · have : s.round ∈ (decAt S i).map Sk.round := List.mem_map.2 ⟨s, hs, rfl⟩
   rw [e] at this
   obtain ⟨s', h1, h2⟩ := List.mem_map.1 this
   have := h.2 s' h1
   omega
theorem cpS_dec {S : List Sk} (h : rok S) {i : Nat} (hi : i < S.length) : cpS (decAt S i) = (cpS S).set S[i].round.toNat ((cpS S).getD S[i].round.toNat 0 - 1) := by
 have hd := rok_dec h i
 have hri := h.2 _ (List.getElem_mem hi)
 have key : ∀ q, (cpS (decAt S i)).getD q 0 = ((cpS S).set S[i].round.toNat ((cpS S).getD S[i].round.toNat 0 - 1)).getD q 0 := fun q => by
   by_cases hq : ∃ j, ∃ hj : j < S.length, S[j].round = (q : Int)
   · obtain ⟨j, hj, e⟩ := hq
     have hj2 : j < (decAt S i).length := by rw [decAt_len]; exact hj
     have hg := decAt_get (i := i) hj
     have h1 := cpS_at hd hj2
     rw [hg] at h1
     by_cases eij : i = j
     · subst eij
       rw [if_pos rfl] at h1
       have e2 : q = S[i].round.toNat := by omega
       subst e2
       rw [getD_set_eq (by rw [cpS_len]; omega), cpS_at h hi]
       have h1 : (cpS (decAt S i)).getD S[i].round.toNat 0 = (S[i].copies - 1).toNat := h1
       omega
     · rw [if_neg eij] at h1
       have e2 : q = S[j].round.toNat := by omega
       subst e2
       have hne : S[i].round.toNat ≠ S[j].round.toNat := fun e3 => by
         have hrj := h.2 _ (List.getElem_mem hj)
         rcases Nat.lt_trichotomy i j with h4 | h4 | h4
         · have := rdist_lt h.1 hi hj h4; omega
         · exact eij h4
         · have := rdist_lt h.1 hj hi h4; omega
       rw [getD_set_ne hne, h1, cpS_at h hj]
   · have hno : ∀ s ∈ S, s.round ≠ (q : Int) := fun s hs e => by
       obtain ⟨j, hj, rfl⟩ := List.getElem_of_mem hs
       exact hq ⟨j, hj, e⟩
     have hno2 : ∀ s ∈ decAt S i, s.round ≠ (q : Int) := fun s hs e => by
       obtain ⟨j, hj, rfl⟩ := List.getElem_of_mem hs
       have hj' : j < S.length := by rwa [decAt_len] at hj
       rw [decAt_get hj'] at e
       refine hq ⟨j, hj', ?_⟩
       split at e
       · exact e
       · exact e
     rw [cpS_no hd hno2, getD_set_ne (fun e => hno _ (List.getElem_mem hi) (by omega)), cpS_no h hno]
 refine List.ext_getElem (by rw [List.length_set, cpS_len, cpS_len]) fun q h1 h2 => ?_
 have := key q
 rwa [getD_at h1, getD_at h2] at this
theorem usM_dec (S : List Sk) (i : Nat) (h : ∀ s ∈ S, 0 ≤ s.round) (n : Nd) : usM (decAt S i) n = usM S n := by
 unfold usM
 have e : ∀ (L M : List Sk) (x : Nat), L.map (fun s => (s.round, usesB n s)) = M.map (fun s => (s.round, usesB n s)) → L.foldl (usS n) x = M.foldl (usS n) x := by
   intro L
   induction L with
   | nil => intro M x hm; cases M with | nil => rfl | cons _ _ => simp at hm
   | cons a L ih =>
     intro M x hm
     cases M with
     | nil => simp at hm
     | cons b M =>
       simp only [List.map_cons, List.cons.injEq, Prod.mk.injEq] at hm
       rw [List.foldl_cons, List.foldl_cons, show usS n x a = usS n x b by unfold usS; rw [hm.1.1, hm.1.2]]
       exact ih M _ hm.2
 exact e _ _ 0 (decAt_map (f := fun s => (s.round, usesB n s)) (fun _ => rfl) S i)
end Go.Proofs.YthldjgjpokjliaaDoor
/- Schedules: the reference's service is the least one; plain. Conditions: none. -/
namespace Go.Proofs.YthldjgjpokjliaaDoor
open Go.Avc
def natI (l : List Nat) : List Int := l.map fun x : Nat => (x : Int)
def svcAt (n : Nd) (D : List Nd) (S : List Sk) (i : Nat) : Option (List Int) := match S[i]? with
 | some s => if canS n s then (svcR D (decAt S i)).map (s.round :: ·) else none
 | none => none
theorem svcR_cons (n : Nd) (D : List Nd) (S : List Sk) : svcR (n :: D) S = (List.range S.length).findSome? (svcAt n D S) := rfl
theorem stock_of {S : List Sk} (h : rok S) (hc : ∀ s ∈ S, 0 ≤ s.copies) {n : Nd} {q : Nat} (h1 : (usM S n).testBit q = true) (h2 : 0 < (cpS S).getD q 0) : ∃ j, ∃ hj : j < S.length, S[j].round = (q : Int) ∧ canS n S[j] := by
 rw [usM_bit n q fun s hs => (h.2 s hs).1, List.any_eq_true] at h1
 obtain ⟨s, hs, he⟩ := h1
 obtain ⟨j, hj, rfl⟩ := List.getElem_of_mem hs
 rw [Bool.and_eq_true] at he
 have e1 := of_decide_eq_true he.1
 refine ⟨j, hj, e1, fun e => ?_, he.2⟩
 have := cpS_at h hj
 rw [e1, Int.toNat_natCast] at this
 omega
theorem canS_of {S : List Sk} (h : rok S) (hc : ∀ s ∈ S, 0 ≤ s.copies) {n : Nd} {i : Nat} (hi : i < S.length) (hs : canS n S[i]) : (usM S n).testBit S[i].round.toNat = true ∧ 0 < (cpS S).getD S[i].round.toNat 0 := by
 have hr := h.2 _ (List.getElem_mem hi)
 have hcc := hc _ (List.getElem_mem hi)
 refine ⟨?_, ?_⟩
 · rw [usM_bit n _ fun s hs => (h.2 s hs).1, List.any_eq_true]
   exact ⟨S[i], List.getElem_mem hi, by rw [Bool.and_eq_true]; exact ⟨decide_eq_true (by omega), hs.2⟩⟩
 · rw [cpS_at h hi]
   have := hs.1
   omega
theorem copies_dec {S : List Sk} {i : Nat} {n : Nd} (hc : ∀ s ∈ S, 0 ≤ s.copies) (hi : i < S.length) (hs : canS n S[i]) : ∀ s ∈ decAt S i, 0 ≤ s.copies := fun s h => by
 obtain ⟨j, hj, rfl⟩ := List.getElem_of_mem h
 have hj' : j < S.length := by rwa [decAt_len] at hj
 rw [decAt_get hj']
 have := hc _ (List.getElem_mem hj')
 split
 · rename_i e
   subst e
   have := hs.1
   show 0 ≤ S[i].copies - 1
   omega
 · exact this
def svcP (D : List Nd) (S : List Sk) : Option (List Int) → Prop
 | some l => ∃ l', l = natI l' ∧ leastS (D.map (usM S)) (cpS S) D.length l'
 | none => ¬ Sat (D.map (usM S)) (cpS S) D.length
theorem svcR_spec : ∀ (D : List Nd) (S : List Sk), rok S → (∀ s ∈ S, 0 ≤ s.copies) → svcP D S (svcR D S)
 | [], S, _, _ => ⟨[], rfl, ⟨Nat.zero_le _, fun j hj => absurd hj (Nat.not_lt_zero _), fun r => by simp⟩, rfl, fun m _ hm => .inl (List.eq_nil_of_length_eq_zero hm).symm⟩
 | n :: D, S, h, hc => by
   have hdec : ∀ i (hi : i < S.length), canS n S[i] → svcP D (decAt S i) (svcR D (decAt S i)) := fun i hi hs => svcR_spec D _ (rok_dec h i) (copies_dec hc hi hs)
   have hus : ∀ i, D.map (usM (decAt S i)) = D.map (usM S) := fun i => List.map_congr_left fun x _ => usM_dec S i (fun s hs => (h.2 s hs).1) x
   -- a service begins with a stock that can be used
   have hsplit : ∀ m, isSvc ((n :: D).map (usM S)) (cpS S) m → m.length = D.length + 1 → ∃ q m' j, ∃ hj : j < S.length, m = q :: m' ∧ S[j].round = (q : Int) ∧ canS n S[j] ∧ isSvc (D.map (usM (decAt S j))) (cpS (decAt S j)) m' ∧ m'.length = D.length := fun m hm hl => by
     cases m with
     | nil => simp at hl
     | cons q m' =>
       have hq64 : q < (cpS S).length := by
         rw [cpS_len]
         have := hm.room q
         rw [List.count_cons_self] at this
         rcases Nat.lt_or_ge q 64 with h1 | h1
         · exact h1
         · rw [List.getD_eq_getElem?_getD, List.getElem?_eq_none (by rw [cpS_len]; exact h1)] at this
           simp at this
       obtain ⟨g1, g2, g3⟩ := (isSvc_cons hq64).1 hm
       obtain ⟨j, hj, e1, e2⟩ := stock_of h hc g1 g2
       refine ⟨q, m', j, hj, rfl, e1, e2, ?_, by simpa using hl⟩
       rw [hus j, cpS_dec h hj, e1, Int.toNat_natCast]
       exact g3
   rw [svcR_cons]
   cases hf : (List.range S.length).findSome? (svcAt n D S) with
   | none =>
     rintro ⟨m, hm, hl⟩
     obtain ⟨q, m', j, hj, _, _, e2, e3, e4⟩ := hsplit m hm (by simpa using hl)
     have := List.findSome?_eq_none_iff.1 hf j (List.mem_range.2 hj)
     unfold svcAt at this
     rw [List.getElem?_eq_getElem hj] at this
     simp only [if_pos e2, Option.map_eq_none_iff] at this
     have hd := hdec j hj e2
     rw [this] at hd
     exact hd ⟨m', e3, e4⟩
   | some l =>
     obtain ⟨L1, i, L2, e1, e2, e3⟩ := List.findSome?_eq_some_iff.1 hf
     have hlen := congrArg List.length e1
     simp only [List.length_range, List.length_append, List.length_cons] at hlen
     have hil : i = L1.length := by
       have : (List.range S.length)[L1.length]? = some i := by rw [e1]; simp
       rw [List.getElem?_range (by omega)] at this
       exact (Option.some.inj this).symm
     have hi : i < S.length := by omega
     have hbef : ∀ j, j < i → svcAt n D S j = none := fun j hj => e3 j (by
       have h1 : (List.range S.length)[j]? = some j := List.getElem?_range (by omega)
       rw [e1, List.getElem?_append_left (by omega)] at h1
       exact List.mem_of_getElem? h1)
     unfold svcAt at e2
     rw [List.getElem?_eq_getElem hi] at e2
     simp only at e2
     by_cases hs : canS n S[i]
     · rw [if_pos hs, Option.map_eq_some_iff] at e2
       obtain ⟨t, ht, rfl⟩ := e2
       have hd := hdec i hi hs
       rw [ht] at hd
       obtain ⟨t', rfl, ht'⟩ := hd
       have hri := h.2 _ (List.getElem_mem hi)
       obtain ⟨g1, g2⟩ := canS_of h hc hi hs
       have hd2 := ht'
       rw [hus i, cpS_dec h hi] at hd2
       have hr64 : S[i].round.toNat < (cpS S).length := by rw [cpS_len]; omega
       refine ⟨S[i].round.toNat :: t', by simp [natI]; omega, (isSvc_cons hr64).2 ⟨g1, g2, hd2.1⟩, by simp [ht'.2.1], fun m hm hl => ?_⟩
       obtain ⟨q, m', j, hj, rfl, e4, e5, e6, e7⟩ := hsplit m hm (by simpa using hl)
       rcases Nat.lt_trichotomy i j with h5 | h5 | h5
       · have := rdist_lt h.1 hi hj h5
         exact .inr (.inl (by omega))
       · subst h5
         have eq : S[i].round.toNat = q := by omega
         rcases ht'.2.2 m' e6 e7 with h6 | h6
         · exact .inl (by rw [eq, h6])
         · exact .inr (.inr ⟨eq, h6⟩)
       · have h7 := hbef j h5
         unfold svcAt at h7
         rw [List.getElem?_eq_getElem hj] at h7
         simp only [if_pos e5, Option.map_eq_none_iff] at h7
         have h8 := hdec j hj e5
         rw [h7] at h8
         exact absurd ⟨m', e6, e7⟩ h8
     · rw [if_neg hs] at e2; cases e2
end Go.Proofs.YthldjgjpokjliaaDoor
/- Schedules: the reference's service, walked. Conditions: none. -/
namespace Go.Proofs.YthldjgjpokjliaaDoor
open Go.Avc
def svcE : Option (List Int) → PV
 | some l => .tup [encIs l, .bool true]
 | none => .tup [.sl 1 [], .bool false]
theorem svcR_none {n : Nd} {D : List Nd} {S : List Sk} (h : ∀ j, j < S.length → svcAt n D S j = none) : svcR (n :: D) S = none := by
 rw [svcR_cons]
 exact List.findSome?_eq_none_iff.2 fun j hj => h j (List.mem_range.1 hj)
theorem svcR_some {n : Nd} {D : List Nd} {S : List Sk} {i : Nat} (hi : i < S.length) (h : ∀ j, j < i → svcAt n D S j = none) {l : List Int} (hl : svcAt n D S i = some l) : svcR (n :: D) S = some l := by
 rw [svcR_cons]
 refine List.findSome?_eq_some_iff.2 ⟨List.range i, i, List.range' (i + 1) (S.length - i - 1), ?_, hl, fun j hj => h j (List.mem_range.1 hj)⟩
 rw [List.range_eq_range', List.range_eq_range', show S.length = i + (S.length - i - 1 + 1) by omega, ← List.range'_append_1, List.range'_succ]
 simp
theorem svcR_length : ∀ (D : List Nd) (S : List Sk) (l : List Int), svcR D S = some l → l.length = D.length
 | [], S, l, h => by
   obtain rfl := Option.some.inj (show some [] = some l from h)
   rfl
 | n :: D, S, l, h => by
   rw [svcR_cons] at h
   obtain ⟨j, _, hj⟩ := List.exists_of_findSome?_eq_some h
   unfold svcAt at hj
   split at hj
   · split at hj
     · obtain ⟨t, ht, rfl⟩ := Option.map_eq_some_iff.1 hj
       have := svcR_length D _ t ht
       simp [this]
     · cases hj
   · cases hj
theorem row_dec {S : List Sk} {i : Nat} (hi : i < S.length) {x : Int} (hx : x = S[i].copies - 1) : (S.map encSk).set i (((S.map encSk).getD i []).set 1 (.int x)) = (decAt S i).map encSk := by
 have e : (S.map encSk).getD i [] = encSk S[i] := by rw [getD_at (by simpa using hi), List.getElem_map]
 rw [e, hx]
 refine List.ext_getElem (by simp [decAt_len]) fun j h1 h2 => ?_
 have hj : j < S.length := by simpa using h1
 rw [List.getElem_set, List.getElem_map, List.getElem_map, decAt_get hj]
 by_cases eij : i = j
 · subst eij
   rw [if_pos rfl, if_pos rfl]
   rfl
 · rw [if_neg eij, if_neg eij]
attribute [local irreducible] PSub Wp PSpec Le Need Both
theorem service_spec : ∀ (D : List Nd) (S : List Sk), S.length ≤ 1000 → D.length ≤ 1000 → (∀ n ∈ D, n.rounds.length ≤ 1000) → (∀ s ∈ S, -1000000 ≤ s.copies - D.length ∧ s.copies ≤ 1000000) → PSpec Tryd.prog 41 [encSks S, encNds D] (svcE (svcR D S)) := by
 intro D
 induction D with
 | nil =>
   intro S hS hD hn hc
   refine PSpec.of_vc (fun Γ => more8 false Γ.P Γ.fx) (fun Γ => more8_ok) Tryd.func41 rfl Tryd.call41 (by simp) ?_
   rintro ⟨P, N, w0, X, β0, fx, y, hy, pk, df⟩ rfl rfl rfl hoff rfl; change y.on = false at hoff
   repeat' ((try conv => whnf); first|refine aq bd ?_|fail)
   exact PSub.refl _
 | cons n D ih =>
   intro S hS hD hn hc
   refine PSpec.of_vc (fun Γ => more8 false Γ.P Γ.fx) (fun Γ => more8_ok) Tryd.func41 rfl Tryd.call41 (by simp) ?_
   rintro ⟨P, N, w0, X, β0, fx, y, hy, pk, df⟩ rfl rfl rfl hoff rfl; change y.on = false at hoff
   have lS : (S.map encSk).length = S.length := List.length_map ..
   have lD : ((n :: D).map encNd).length = D.length + 1 := by simp
   skip
   refine Wp.loop (fun i : Nat => ⟨[(0, .pure (encSks S)), (1, .pure (encNds (n :: D))), (6, .int i)], [], []⟩) (fun i => i ≤ S.length ∧ ∀ j, j < i → svcAt n D S j = none) (fun i => S.length - i) 0
     (Le.of ?_ ?_ rfl rfl rfl) ⟨Nat.zero_le _, fun j h => absurd h (Nat.not_lt_zero _)⟩ ?_
   · (repeat' (first|exact trivial|refine aq ?_ ?_|exact oq|fail))
   · (repeat' (first|exact trivial|fail))
   rintro i ⟨hi, hbef⟩
   by_cases hi2 : i < S.length
   · have nx : svcAt n D S i = none → (i + 1 ≤ S.length ∧ ∀ j, j < i + 1 → svcAt n D S j = none) := fun h => ⟨hi2, fun j hj => by
       rcases Nat.lt_succ_iff_lt_or_eq.1 hj with h1 | rfl
       · exact hbef j h1
       · exact h⟩
     have hat : svcAt n D S i = if canS n S[i] then (svcR D (decAt S i)).map (S[i].round :: ·) else none := by unfold svcAt; rw [List.getElem?_eq_getElem hi2]
     have qu := uses_spec n S[i] (by have := hn n List.mem_cons_self; omega)
     by_cases h0 : S[i].copies = 0
     · have hno := nx (by rw [hat, if_neg (fun h => h.1 h0)])
       refine code_sound (more := more8 false _ _) more8_ok FOK.wide _ ?_
       repeat' ((try conv => whnf); first|(first|refine k3 ?_ ?_|refine k4 ?_ ?_) <;> intro hb <;> (try rw [lM] at hb) <;> try (exfalso; omega)|fail)
       refine Wp.draw (more := more8 true _ _) more8_det more8_ok FOK.wide rfl (by decide +kernel) (by conv => lhs; reduce) ?_
       repeat' ((try conv => whnf); first|(first|refine k3 ?_ ?_|refine k4 ?_ ?_) <;> intro hb <;> (try rw [lM] at hb) <;> try (exfalso; omega)|refine s4 nm ?_|refine s5 nm nm ?_|fail)
       exact ⟨i + 1, Le.of (by (repeat' (first|exact trivial|refine aq ?_ ?_|exact oq|fail))) (by (repeat' (first|exact trivial|fail))) rfl rfl rfl, hno, by omega⟩
     · by_cases hu : usesB n S[i] = true
       · rw [hu] at qu
         rw [if_pos ⟨h0, hu⟩] at hat
         have hpt : 0 + ((i : Nat) : Int).toNat < S.length := by omega
         have hE : S[0 + ((i : Nat) : Int).toNat] = S[i] := by simp only [Nat.zero_add, Int.toNat_natCast]
         have hci := hc _ (List.getElem_mem hi2)
         have hcb : -1000000 ≤ (S[0 + ((i : Nat) : Int).toNat]).copies - 1 ∧ (S[0 + ((i : Nat) : Int).toNat]).copies ≤ 1000000 := by
           rw [hE]
           simp only [List.length_cons] at hci
           omega
         refine code_sound (more := more8 false _ _) more8_ok FOK.wide _ ?_
         repeat' ((try conv => whnf); first|(first|refine k3 ?_ ?_|refine k4 ?_ ?_) <;> intro hb <;> (try rw [lM] at hb) <;> try (exfalso; omega)|fail)
         refine Wp.draw (more := more8 true _ _) more8_det more8_ok FOK.wide rfl (by decide +kernel) (by conv => lhs; reduce) ?_
         repeat' ((try conv => whnf); first|(first|refine k3 ?_ ?_|refine k4 ?_ ?_) <;> intro hb <;> (try rw [lM] at hb) <;> try (exfalso; omega)|refine s5 nm nm ?_|fail)
         refine ⟨_, qu, ?_⟩
         repeat' ((try conv => whnf); first|refine aq rfl ?_|refine s4 nm ?_|refine aq bd ?_|refine ⟨_, _, getMapN nm, rfl, ?_⟩|refine ⟨_, set_rfl _ _ _, ?_⟩|fail)
         have hrow : (([] : List (List PV)) ++ S.map encSk).set (0 + ((i : Nat) : Int).toNat) (((([] : List (List PV)) ++ S.map encSk).getD (0 + ((i : Nat) : Int).toNat) []).set 1 (.int ((S[0 + ((i : Nat) : Int).toNat]).copies - 1))) = (decAt S i).map encSk := by
           have := row_dec hi2 (x := (S[0 + ((i : Nat) : Int).toNat]).copies - 1) (by rw [hE])
           simp only [Nat.zero_add, Int.toNat_natCast, List.nil_append] at this ⊢
           exact this
         have q1 : PSpec Tryd.prog 41 [.sl 3 (List.take (([] : List (List PV)).length + (S.map encSk).length) (List.drop 0 ((([] : List (List PV)) ++ S.map encSk).set (0 + ((i : Nat) : Int).toNat) (((([] : List (List PV)) ++ S.map encSk).getD (0 + ((i : Nat) : Int).toNat) []).set 1 (.int ((S[0 + ((i : Nat) : Int).toNat]).copies - 1)))))), .sl 4 (cut ((n :: D).map encNd) (Int.toNat 1) ((n :: D).map encNd).length)] (svcE (svcR D (decAt S i))) := by
           rw [hrow, List.drop_zero, List.take_of_length_le (by simp [decAt_len])]
           have e2 : cut ((n :: D).map encNd) (Int.toNat 1) ((n :: D).map encNd).length = D.map encNd := by
             unfold cut
             rw [List.map_cons, show Int.toNat 1 = 1 from rfl, List.drop_succ_cons, List.drop_zero]
             exact List.take_of_length_le (by simp)
           rw [e2]
           refine ih (decAt S i) (by rw [decAt_len]; exact hS) (by simp only [List.length_cons] at hD; omega) (fun m hm => hn m (List.mem_cons_of_mem _ hm)) fun s hs => ?_
           obtain ⟨j, hj, rfl⟩ := List.getElem_of_mem hs
           have hj' : j < S.length := by rwa [decAt_len] at hj
           have hcj := hc _ (List.getElem_mem hj')
           rw [decAt_get hj']
           simp only [List.length_cons] at hcj
           split
           · rename_i e
             subst e
             show -1000000 ≤ S[i].copies - 1 - _ ∧ S[i].copies - 1 ≤ _
             omega
           · omega
         cases hs : svcR D (decAt S i) with
         | none =>
           rw [hs] at q1 hat
           have hno := nx (by rw [hat]; rfl)
           refine .inl ⟨_, q1, ?_⟩
           repeat' ((try conv => whnf); first|refine aq rfl ?_|refine s4 nm ?_|fail)
           exact ⟨i + 1, Le.of (by (repeat' (first|exact trivial|refine aq ?_ ?_|exact oq|fail))) (by (repeat' (first|exact trivial|fail))) rfl rfl rfl, hno, by omega⟩
         | some l =>
           rw [hs] at q1 hat
           have hll := svcR_length D _ l hs
           have lL : (l.map fun x => [PV.int x]).length = l.length := List.length_map ..
           have hDl : D.length ≤ 1000 := by simp only [List.length_cons] at hD; omega
           rw [svcR_some hi2 hbef (l := S[i].round :: l) (by rw [hat]; rfl)]
           refine .inl ⟨_, q1, ?_⟩
           repeat' ((try conv => whnf); first|refine aq rfl ?_|refine s5 nm nm ?_|refine aq bd ?_|fail)
           exact PSub.tup ⟨sub_sl (List.take_of_length_le (by simp; omega)), PSub.refl _, trivial⟩
       · have hno := nx (by rw [hat, if_neg (fun h => hu h.2)])
         rw [Bool.not_eq_true] at hu
         rw [hu] at qu
         refine code_sound (more := more8 false _ _) more8_ok FOK.wide _ ?_
         repeat' ((try conv => whnf); first|(first|refine k3 ?_ ?_|refine k4 ?_ ?_) <;> intro hb <;> (try rw [lM] at hb) <;> try (exfalso; omega)|fail)
         refine Wp.draw (more := more8 true _ _) more8_det more8_ok FOK.wide rfl (by decide +kernel) (by conv => lhs; reduce) ?_
         repeat' ((try conv => whnf); first|(first|refine k3 ?_ ?_|refine k4 ?_ ?_) <;> intro hb <;> (try rw [lM] at hb) <;> try (exfalso; omega)|refine s5 nm nm ?_|fail)
         refine ⟨_, qu, ?_⟩
         repeat' ((try conv => whnf); first|refine s4 nm ?_|fail)
         exact ⟨i + 1, Le.of (by (repeat' (first|exact trivial|refine aq ?_ ?_|exact oq|fail))) (by (repeat' (first|exact trivial|fail))) rfl rfl rfl, hno, by omega⟩
   · have e : i = S.length := by omega
     subst e
     rw [svcR_none hbef]
     refine code_sound (more := more8 false _ _) more8_ok FOK.wide _ ?_
     repeat' ((try conv => whnf); first|(first|refine k3 ?_ ?_|refine k4 ?_ ?_) <;> intro hb <;> (try rw [lM] at hb) <;> try (exfalso; omega)|fail)
     exact PSub.tup ⟨PSub.nil 1, PSub.refl _, trivial⟩
end Go.Proofs.YthldjgjpokjliaaDoor
/- Schedules: the longest service, as the reference finds it; plain. Conditions: none. -/
namespace Go.Proofs.YthldjgjpokjliaaDoor
open Go.Avc
theorem isSvc_untake {al cp l : List Nat} {n : Nat} (h : isSvc (al.take n) cp l) : isSvc al cp l := by
 have h2 := h.len
 rw [List.length_take] at h2
 refine ⟨by omega, fun j hj => ?_, h.room⟩
 have h1 := h.can j hj
 rw [getD_at (d := 0) (show j < (al.take n).length by rw [List.length_take]; omega), List.getElem_take] at h1
 rw [getD_at (d := 0) (show j < al.length by omega)]
 exact h1
def msS (D : List Nd) (S : List Sk) : List Nat := D.map (usM S)
theorem msS_take (D : List Nd) (S : List Sk) (n : Nat) : msS (D.take n) S = (msS D S).take n := List.map_take ..
theorem msS_len (D : List Nd) (S : List Sk) : (msS D S).length = D.length := List.length_map ..
def svcAtP (D : List Nd) (S : List Sk) (n : Nat) : Option (List Int) → Prop
 | some l => ∃ l', l = natI l' ∧ leastS ((msS D S).take n) (cpS S) n l'
 | none => ¬ Sat (msS D S) (cpS S) n
theorem svcR_take {D : List Nd} {S : List Sk} (h : rok S) (hc : ∀ s ∈ S, 0 ≤ s.copies) {n : Nat} (hn : n ≤ D.length) : svcAtP D S n (svcR (D.take n) S) := by
 have h1 := svcR_spec (D.take n) S h hc
 have e : (D.take n).map (usM S) = (msS D S).take n := msS_take D S n
 have el : (D.take n).length = n := by rw [List.length_take]; omega
 cases hs : svcR (D.take n) S with
 | none =>
   rw [hs] at h1
   simp only [svcP, e, el] at h1
   exact fun h2 => h1 h2.take
 | some l =>
   rw [hs] at h1
   simp only [svcP, e, el] at h1
   exact h1
theorem leastS_sat {al cp l : List Nat} {n : Nat} (h : leastS (al.take n) cp n l) : Sat al cp n := ⟨l, isSvc_untake h.1, h.2.1⟩
def lgN (D : List Nd) (S : List Sk) : Nat → List Int
 | 0 => []
 | n + 1 => match svcR (D.take (n + 1)) S with
   | some l => l
   | none => lgN D S n
def lgR (D : List Nd) (S : List Sk) : List Int := lgN D S D.length
theorem lgN_some {D : List Nd} {S : List Sk} {n : Nat} {l : List Int} (h : svcR (D.take n) S = some l) : lgN D S n = l := by
 cases n with
 | zero =>
   rw [List.take_zero] at h
   exact Option.some.inj h
 | succ n => unfold lgN; rw [h]
theorem lgN_no {D : List Nd} {S : List Sk} {n : Nat} (h : svcR (D.take (n + 1)) S = none) : lgN D S (n + 1) = lgN D S n := by
 show (match svcR (D.take (n + 1)) S with | some l => l | none => lgN D S n) = _
 rw [h]
theorem lgN_none {D : List Nd} {S : List Sk} (h : rok S) (hc : ∀ s ∈ S, 0 ≤ s.copies) {n : Nat} (hn : n + 1 ≤ D.length) (hno : svcR (D.take (n + 1)) S = none) : ∀ d, n + d ≤ D.length → lgN D S (n + d) = lgN D S n
 | 0, _ => rfl
 | d + 1, hd => by
   have h1 := svcR_take h hc hn
   rw [hno] at h1
   have h2 := svcR_take h hc hd
   have e : svcR (D.take (n + d + 1)) S = none := by
     cases hs : svcR (D.take (n + (d + 1))) S with
     | none => rfl
     | some l =>
       rw [hs] at h2
       obtain ⟨l', _, h3⟩ := h2
       exact absurd ((leastS_sat h3).mono (by omega)) h1
   rw [show n + (d + 1) = n + d + 1 by omega, lgN_no e]
   exact lgN_none h hc hn hno d (by omega)
theorem lgR_stop {D : List Nd} {S : List Sk} (h : rok S) (hc : ∀ s ∈ S, 0 ≤ s.copies) {n : Nat} (hn : n + 1 ≤ D.length) (hno : svcR (D.take (n + 1)) S = none) : lgR D S = lgN D S n := by
 have := lgN_none h hc hn hno (D.length - n) (by omega)
 rw [show n + (D.length - n) = D.length by omega] at this
 exact this
theorem lgN_spec {D : List Nd} {S : List Sk} (h : rok S) (hc : ∀ s ∈ S, 0 ≤ s.copies) : ∀ n, n ≤ D.length → ∃ l0 k, lgN D S n = natI l0 ∧ leastS ((msS D S).take k) (cpS S) k l0 ∧ k ≤ n ∧ ∀ m, k < m → m ≤ n → ¬ Sat (msS D S) (cpS S) m
 | 0, _ => ⟨[], 0, rfl, ⟨⟨Nat.zero_le _, fun j hj => absurd hj (Nat.not_lt_zero _), fun r => by simp⟩, rfl, fun m _ hm => .inl (List.eq_nil_of_length_eq_zero hm).symm⟩, Nat.le_refl _, fun m h1 h2 => by omega⟩
 | n + 1, hn => by
   have h1 := svcR_take h hc hn
   cases hs : svcR (D.take (n + 1)) S with
   | some l =>
     rw [hs] at h1
     obtain ⟨l', e, h2⟩ := h1
     exact ⟨l', n + 1, by rw [lgN_some hs, e], h2, Nat.le_refl _, fun m h1 h2 => by omega⟩
   | none =>
     rw [hs] at h1
     obtain ⟨l0, k, e, h2, h3, h4⟩ := lgN_spec (D := D) h hc n (by omega)
     refine ⟨l0, k, by rw [lgN_no hs, e], h2, by omega, fun m h5 h6 => ?_⟩
     rcases Nat.lt_or_eq_of_le h6 with h7 | rfl
     · exact h4 m h5 (by omega)
     · exact h1
theorem lgR_spec {D : List Nd} {S : List Sk} (h : rok S) (hc : ∀ s ∈ S, 0 ≤ s.copies) : ∃ l0, lgR D S = natI l0 ∧ leastS ((msS D S).take (srvL (msS D S) (cpS S))) (cpS S) (srvL (msS D S) (cpS S)) l0 := by
 obtain ⟨l0, k, e, h2, h3, h4⟩ := lgN_spec (D := D) h hc D.length (Nat.le_refl _)
 have hk : srvL (msS D S) (cpS S) = k := srvL_eq (leastS_sat h2) fun h5 => by
   by_cases h6 : k + 1 ≤ D.length
   · exact h4 _ (Nat.lt_succ_self _) h6 h5
   · have := h5.le
     have := srvL_le (msS D S) (cpS S)
     rw [msS_len] at this
     omega
 rw [hk]
 exact ⟨l0, e, h2⟩
theorem natI_len (l : List Nat) : (natI l).length = l.length := List.length_map ..
theorem lgR_len {D : List Nd} {S : List Sk} (h : rok S) (hc : ∀ s ∈ S, 0 ≤ s.copies) : (lgR D S).length = srvL (msS D S) (cpS S) := by
 obtain ⟨l0, e, h1⟩ := lgR_spec (D := D) h hc
 rw [e, natI_len, h1.2.1]
theorem chk_rok {S : List Sk} {D : List Nd} (h : chkP S D) : rok S ∧ ∀ s ∈ S, 0 ≤ s.copies := by
 obtain ⟨_, _, h3, h4, _⟩ := h
 refine ⟨⟨?_, fun s hs => inc_low h4 _ (List.mem_map.2 ⟨s, hs, rfl⟩)⟩, fun s hs => (h3 s hs).1⟩
 have := inc_pair h4
 rwa [List.pairwise_map] at this
end Go.Proofs.YthldjgjpokjliaaDoor
/- Schedules: needs with too few copies: they exist where a need cannot be served; the least ones; plain. Conditions: none. -/
namespace Go.Proofs.YthldjgjpokjliaaDoor
open Go.Avc
theorem search {al cp : List Nat} (halb : ∀ i, al.getD i 0 < 18446744073709551616) : ∀ (m T i : Nat) (U : List (List Nat)), untried T < m → T < 18446744073709551616 → i < al.length → UOk al cp U → ∃ b T' U', sQ al cp i T U b T' U' := by
 intro m
 induction m with
 | zero => intro T i U h; exact absurd h (Nat.not_lt_zero _)
 | succ m ih =>
   intro T i U hm hT hi hU
   -- the loop over the rounds
   have loop : ∀ (d T1 : Nat), untried T1 ≤ d → LI al cp T U T1 → ∃ b T' U', sQ al cp i T U b T' U' := by
     intro d
     induction d with
     | zero =>
       intro T1 hd hL
       by_cases h0 : dif (al.getD i 0) T1 = 0
       · exact ⟨false, T1, U, rfl, hL.1, hL.2.1, dif_zero h0, hL.2.2⟩
       · obtain ⟨c1, c2, c3⟩ := ctz_bit h0 (dif_lt (halb i))
         have hT1 : T1.testBit (Lib.ctz 64 (dif (al.getD i 0) T1)) = false := by
           rw [dif_bit] at c2
           cases h : T1.testBit (Lib.ctz 64 (dif (al.getD i 0) T1)) with
           | false => rfl
           | true => rw [h] at c2; simp at c2
         have := untried_lt (T := T1) (T1 := T1 ||| 2 ^ (Lib.ctz 64 (dif (al.getD i 0) T1))) c1 hT1 (bitsIn_or _ _) (by rw [or_bit, pow_bit]; simp)
         omega
     | succ d ihd =>
       intro T1 hd hL
       by_cases h0 : dif (al.getD i 0) T1 = 0
       · exact ⟨false, T1, U, rfl, hL.1, hL.2.1, dif_zero h0, hL.2.2⟩
       obtain ⟨c1, c2, c3⟩ := ctz_bit h0 (dif_lt (halb i))
       obtain ⟨r, hr⟩ : ∃ r, r = Lib.ctz 64 (dif (al.getD i 0) T1) := ⟨_, rfl⟩
       rw [← hr] at c1 c2
       rw [dif_bit] at c2
       have c2 := Bool.and_eq_true_iff.1 c2
       have cb : (al.getD i 0).testBit r = true := c2.1
       have hT1 : T1.testBit r = false := by have := c2.2; simpa using this
       have hTr : T.testBit r = false := by
         cases h : T.testBit r with
         | false => rfl
         | true => (have := hL.2.1 r h; rw [hT1] at this; cases this)
       by_cases hb : (U.getD r []).length < cp.getD r 0
       · exact ⟨true, T1 ||| 2 ^ r, _, sQ_add hU hi c1 cb hTr hb⟩
       have hM0 := hL.mid c1 (show cp.getD r 0 ≤ (U.getD r []).length by omega)
       have inner : ∀ (e k T3 : Nat), (U.getD r []).length - k ≤ e → k ≤ (U.getD r []).length → MI al cp T U r k T3 → bitsIn T1 T3 → ∃ b T' U', sQ al cp i T U b T' U' := by
         intro e
         induction e with
         | zero =>
           intro k T3 he hk hM hT13
           have hN := hM.last (by omega)
           exact ihd T3 (by have := untried_lt (T := T1) (T1 := T3) c1 hT1 hT13 hM.on; omega) hN
         | succ e ihe =>
           intro k T3 he hk hM hT13
           by_cases hk2 : k < (U.getD r []).length
           · have hum : (U.getD r []).getD k 0 ∈ U.getD r [] := by rw [getD_at hk2]; exact List.getElem_mem hk2
             have hul := (hU.mem r _ hum).1
             have hun := untried_lt (T := T) (T1 := T3) c1 hTr hM.sub hM.on
             obtain ⟨b, T4, U1, hq⟩ := ih T3 _ U (by omega) hM.lt hul hU
             cases b with
             | true => exact ⟨true, T4, _, (sQ_swap hi c1 cb hTr hk2 hM hq).2.2⟩
             | false =>
               obtain ⟨_, hN⟩ := hM.next hq
               exact ihe (k + 1) T4 (by omega) hk2 hN (hT13.trans hq.2.2.1)
           · have hN := hM.last (by omega)
             exact ihd T3 (by have := untried_lt (T := T1) (T1 := T3) c1 hT1 hT13 hM.on; omega) hN
       exact inner _ 0 _ (Nat.le_refl _) (Nat.zero_le _) hM0 (bitsIn_or _ _)
   exact loop _ T (Nat.le_refl _) (LI.start hT)
def sumB (S : List Sk) (x : Nat) : Int := (S.map fun s => if x.testBit s.round.toNat then s.copies else 0).sum
def cpsI (cp : List Nat) (R : List Nat) : Nat := (R.map fun r => cp.getD r 0).sum
theorem flatMap_len {α β : Type} {f : α → List β} (L : List α) : (L.flatMap f).length = (L.map fun x => (f x).length).sum := by
 induction L with
 | nil => rfl
 | cons x L ih => rw [List.flatMap_cons, List.length_append, ih]; rfl
theorem sum_le {L : List Nat} {f g : Nat → Nat} (h : ∀ x ∈ L, f x ≤ g x) : (L.map f).sum ≤ (L.map g).sum := by
 induction L with
 | nil => exact Nat.le_refl _
 | cons x L ih =>
   rw [List.map_cons, List.map_cons, List.sum_cons, List.sum_cons]
   have := h x List.mem_cons_self
   have := ih fun y hy => h y (List.mem_cons_of_mem _ hy)
   omega
theorem hall_set {al cp : List Nat} (halb : ∀ i, al.getD i 0 < 18446744073709551616) {n : Nat} (hn : n < al.length) (h1 : Sat al cp n) (h2 : ¬ Sat al cp (n + 1)) :
   ∃ T' : Nat, ∃ w : List Nat, w.Pairwise (· < ·) ∧ (∀ k ∈ w, k < n + 1 ∧ bitsIn (al.getD k 0) T') ∧ T' < 18446744073709551616 ∧ cpsI cp ((List.range 64).filter fun r => T'.testBit r) < w.length := by
 -- users of the first needs
 have users : ∀ k, k ≤ n → ∃ U, UOk al cp U ∧ U.flatten.Perm (List.range k) := by
   intro k
   induction k with
   | zero =>
     intro _
     refine ⟨List.replicate 64 [], ⟨by simp, fun r u hu => ?_, fun r => ?_⟩, by decide⟩
     · rw [List.getD_eq_getElem?_getD, List.getElem?_replicate] at hu
       split at hu <;> cases hu
     · rw [List.getD_eq_getElem?_getD, List.getElem?_replicate]
       split <;> exact Nat.zero_le _
   | succ k ih =>
     intro hk
     obtain ⟨U, hU, hp⟩ := ih (by omega)
     obtain ⟨b, T', U', hq⟩ := search (cp := cp) halb _ 0 k U (Nat.lt_succ_self _) (by decide) (by omega) hU
     cases b with
     | true => exact ⟨U', hq.1, hq.2.1.trans (by rw [List.range_succ]; exact (hp.cons k).trans (List.perm_append_singleton k _).symm)⟩
     | false => exact absurd (h1.mono (show k + 1 ≤ n from hk)) (no_svc hU hp hq)
 obtain ⟨U, hU, hp⟩ := users n (Nat.le_refl _)
 obtain ⟨b, T', U', hq⟩ := search (cp := cp) halb _ 0 n U (Nat.lt_succ_self _) (by decide) hn hU
 cases b with
 | true =>
   refine absurd (has_svc hq.1 (i := n + 1) (hq.2.1.trans ?_) hn) h2
   rw [List.range_succ]
   exact (hp.cons n).trans (List.perm_append_singleton n _).symm
 | false =>
   obtain ⟨rfl, q2, q3, q4, q5⟩ := hq
   have q5 := fun r h => q5 r h (Nat.zero_testBit r)
   obtain ⟨R, hR⟩ : ∃ R, R = (List.range 64).filter fun r => T'.testBit r := ⟨_, rfl⟩
   have hRm : ∀ r, r ∈ R → T'.testBit r = true := fun r h => by rw [hR] at h; exact (List.mem_filter.1 h).2
   obtain ⟨F, hF⟩ : ∃ F, F = R.flatMap fun r => U'.getD r [] := ⟨_, rfl⟩
   have hsub : F.Sublist U'.flatten := by
     rw [hF, ← flatMap_rows, hU.len, hR]
     exact flatMap_sub List.filter_sublist
   have hlt : ∀ j ∈ F, j < n := fun j hj => List.mem_range.1 (hp.mem_iff.1 (hsub.subset hj))
   have hnd : (n :: F).Nodup := by
     rw [List.nodup_cons]
     exact ⟨fun h => Nat.lt_irrefl _ (hlt n h), hsub.nodup (hp.nodup_iff.2 List.nodup_range)⟩
   have hmem : ∀ j ∈ n :: F, j < n + 1 ∧ bitsIn (al.getD j 0) T' := fun j hj => by
     rcases List.mem_cons.1 hj with rfl | hj
     · exact ⟨Nat.lt_succ_self _, q4⟩
     · refine ⟨by have := hlt j hj; omega, ?_⟩
       rw [hF] at hj
       obtain ⟨r, hr, hjr⟩ := List.mem_flatMap.1 hj
       exact (q5 r (hRm r hr)).2 j hjr
   refine ⟨T', (List.range (n + 1)).filter fun j => decide (j ∈ n :: F), (List.pairwise_lt_range).filter _, fun k hk => ?_, q2, ?_⟩
   · exact hmem k (of_decide_eq_true (List.mem_filter.1 hk).2)
   · have e1 : (n :: F).length ≤ ((List.range (n + 1)).filter fun j => decide (j ∈ n :: F)).length := nodup_sub hnd fun j hj => List.mem_filter.2 ⟨List.mem_range.2 (hmem j hj).1, decide_eq_true hj⟩
     have e2 : cpsI cp R ≤ F.length := by
       rw [hF, flatMap_len]
       exact sum_le fun r hr => (q5 r (hRm r hr)).1
     rw [← hR]
     have : (n :: F).length = F.length + 1 := rfl
     omega
end Go.Proofs.YthldjgjpokjliaaDoor
/- Schedules: the least needs with too few copies; plain. Conditions: none. -/
namespace Go.Proofs.YthldjgjpokjliaaDoor
open Go.Avc
def nd0 : Nd := ⟨0, 0, 0, []⟩
def usU (D : List Nd) (w : List Nat) (s : Sk) : Bool := w.any fun k => usesB (D.getD k nd0) s
def cpU (S : List Sk) (D : List Nd) (w : List Nat) : Int := (S.map fun s => if usU D w s then s.copies else 0).sum
def few (S : List Sk) (D : List Nd) (w : List Nat) : Prop := cpU S D w < w.length
instance (S : List Sk) (D : List Nd) (w : List Nat) : Decidable (few S D w) := inferInstanceAs (Decidable (_ < _))
theorem sumI_le {S : List Sk} {f g : Sk → Int} (h : ∀ s ∈ S, f s ≤ g s) : (S.map f).sum ≤ (S.map g).sum := by
 induction S with
 | nil => exact Int.le_refl _
 | cons s S ih =>
   rw [List.map_cons, List.map_cons, List.sum_cons, List.sum_cons]
   have := h s List.mem_cons_self
   have := ih fun y hy => h y (List.mem_cons_of_mem _ hy)
   omega
theorem sumF {cp : List Nat} {T : Nat} : ∀ {S : List Sk}, (∀ s ∈ S, s.copies = (cp.getD s.round.toNat 0 : Nat)) → sumB S T = (cpsI cp ((S.filter fun s => T.testBit s.round.toNat).map fun s => s.round.toNat) : Nat)
 | [], _ => rfl
 | s :: S, h => by
   have ih := sumF (T := T) fun y hy => h y (List.mem_cons_of_mem (a := y) s hy)
   have h1 := h s List.mem_cons_self
   unfold sumB cpsI at ih ⊢
   rw [List.map_cons, List.sum_cons, ih, List.filter_cons]
   cases hb : T.testBit s.round.toNat with
   | true => rw [if_pos rfl, if_pos rfl, List.map_cons, List.map_cons, List.sum_cons, h1]; omega
   | false => rw [if_neg (by simp), if_neg (by simp)]; omega
theorem sum_sub {f : Nat → Nat} : ∀ {L M : List Nat}, L.Nodup → (∀ x ∈ L, x ∈ M) → (L.map f).sum ≤ (M.map f).sum
 | [], _, _, _ => Nat.zero_le _
 | x :: L, M, h, hs => by
   have hx := hs x List.mem_cons_self
   rw [List.nodup_cons] at h
   have := sum_sub (f := f) (L := L) (M := M.erase x) h.2 fun y hy => (List.mem_erase_of_ne (fun e : y = x => h.1 (by rw [← e]; exact hy))).2 (hs y (List.mem_cons_of_mem _ hy))
   have e := ((List.perm_cons_erase hx).map f).sum_nat
   rw [e, List.map_cons, List.map_cons, List.sum_cons, List.sum_cons]
   omega
theorem usM_get {D : List Nd} {S : List Sk} (k : Nat) : (msS D S).getD k 0 = usM S (D.getD k nd0) ∨ D.length ≤ k := by
 by_cases h : k < D.length
 · left
   rw [getD_at (l := D) h, getD_at (by rw [msS_len]; exact h)]
   simp [msS]
 · right; omega
theorem uses_bit {D : List Nd} {S : List Sk} (h : rok S) {s : Sk} (hs : s ∈ S) {k : Nat} (hu : usesB (D.getD k nd0) s = true) : ((msS D S).getD k 0).testBit s.round.toNat = true := by
 rcases usM_get (D := D) (S := S) k with e | e
 · rw [e, usM_bit _ _ fun s hs => (h.2 s hs).1, List.any_eq_true]
   exact ⟨s, hs, by rw [Bool.and_eq_true]; exact ⟨decide_eq_true (by have := h.2 s hs; omega), hu⟩⟩
 · rw [List.getD_eq_getElem?_getD, List.getElem?_eq_none e] at hu
   simp [nd0, usesB] at hu
theorem copies_at {S : List Sk} (h : rok S) (hc : ∀ s ∈ S, 0 ≤ s.copies) : ∀ s ∈ S, s.copies = ((cpS S).getD s.round.toNat 0 : Nat) := fun s hs => by
 have := hc s hs
 obtain ⟨j, hj, rfl⟩ := List.getElem_of_mem hs
 rw [cpS_at h hj]
 omega
theorem cpU_le {S : List Sk} {D : List Nd} {w : List Nat} {T : Nat} (h : rok S) (hc : ∀ s ∈ S, 0 ≤ s.copies) (hT : ∀ k ∈ w, bitsIn ((msS D S).getD k 0) T) : cpU S D w ≤ (cpsI (cpS S) ((List.range 64).filter fun r => T.testBit r) : Nat) := by
 have h1 : cpU S D w ≤ sumB S T := sumI_le fun s hs => by
   have := hc s hs
   by_cases hu : usU D w s = true
   · rw [if_pos hu]
     obtain ⟨k, hk, hk2⟩ := List.any_eq_true.1 hu
     rw [if_pos (hT k hk _ (uses_bit h hs hk2))]
     exact Int.le_refl _
   · rw [if_neg hu]
     split <;> omega
 rw [sumF (copies_at h hc)] at h1
 have h2 : cpsI (cpS S) ((S.filter fun s => T.testBit s.round.toNat).map fun s => s.round.toNat) ≤ cpsI (cpS S) ((List.range 64).filter fun r => T.testBit r) := by
   refine sum_sub ?_ fun r hr => ?_
   · have hp : (S.map fun s => s.round.toNat).Pairwise (· < ·) := by
       rw [List.pairwise_map]
       exact List.Pairwise.imp_of_mem (fun {a b} ha hb hab => by have := h.2 a ha; have := h.2 b hb; omega) h.1
     exact (List.Pairwise.sublist (List.filter_sublist.map _) hp).imp fun h => Nat.ne_of_lt h
   · obtain ⟨s, hs, rfl⟩ := List.mem_map.1 hr
     obtain ⟨hs1, hs2⟩ := List.mem_filter.1 hs
     exact List.mem_filter.2 ⟨List.mem_range.2 (by have := h.2 s hs1; omega), hs2⟩
 omega
def incN (l : List Nat) (a b : Nat) : Prop := l.Pairwise (· < ·) ∧ ∀ x ∈ l, a ≤ x ∧ x < b
theorem msS_lt {D : List Nd} {S : List Sk} (h : rok S) (i : Nat) : (msS D S).getD i 0 < 18446744073709551616 := by
 by_cases hi : i < D.length
 · rw [getD_at (by rw [msS_len]; exact hi)]
   simp only [msS, List.getElem_map]
   exact usM_lt _ h.2
 · rw [List.getD_eq_getElem?_getD, List.getElem?_eq_none (by rw [msS_len]; omega)]
   decide
theorem hall_ex {D : List Nd} {S : List Sk} (h : rok S) (hc : ∀ s ∈ S, 0 ≤ s.copies) (hn : srvL (msS D S) (cpS S) < D.length) : ∃ w, incN w 0 (srvL (msS D S) (cpS S) + 1) ∧ few S D w := by
 obtain ⟨T', w, h1, h2, h3, h4⟩ := hall_set (al := msS D S) (cp := cpS S) (fun i => msS_lt h i) (n := srvL (msS D S) (cpS S)) (by rw [msS_len]; exact hn) (srvL_sat _ _) fun h5 => by have := h5.le; omega
 refine ⟨w, ⟨h1, fun x hx => ⟨Nat.zero_le _, (h2 x hx).1⟩⟩, ?_⟩
 have := cpU_le (D := D) h hc fun k hk => (h2 k hk).2
 show cpU S D w < w.length
 omega
def hallP (S : List Sk) (D : List Nd) (B : Nat) (l : List Nat) : Prop := incN l 0 B ∧ few S D l ∧ ∀ m, incN m 0 B → few S D m → l = m ∨ l.length < m.length ∨ l.length = m.length ∧ lexN l m
theorem hallP_one {S : List Sk} {D : List Nd} {B : Nat} {l m : List Nat} (hl : hallP S D B l) (hm : hallP S D B m) : l = m := by
 rcases hl.2.2 m hm.1 hm.2.1 with h | h | h
 · exact h
 all_goals rcases hm.2.2 l hl.1 hl.2.1 with g | g | g
 · exact g.symm
 · omega
 · omega
 · exact g.symm
 · omega
 · exact absurd (lexN_trans h.2 g.2) (lexN_irr l)
def leR (S : List Sk) (D : List Nd) (bound : Nat) : Nat → List Nat → Nat → Option (List Nat)
 | 0, w, _ => if few S D w then some w else none
 | more + 1, w, a => (List.range' a (bound - a)).findSome? fun n => leR S D bound more (w ++ [n]) (n + 1)
def leP (S : List Sk) (D : List Nd) (bound more : Nat) (w : List Nat) (a : Nat) : Option (List Nat) → Prop
 | some l => ∃ t, l = w ++ t ∧ incN t a bound ∧ t.length = more ∧ few S D l ∧ ∀ t', incN t' a bound → t'.length = more → few S D (w ++ t') → t = t' ∨ lexN t t'
 | none => ∀ t', incN t' a bound → t'.length = more → ¬ few S D (w ++ t')
theorem incN_cons {n : Nat} {t : List Nat} {a b : Nat} : incN (n :: t) a b ↔ a ≤ n ∧ n < b ∧ incN t (n + 1) b := by
 unfold incN
 rw [List.pairwise_cons]
 constructor
 · rintro ⟨⟨h1, h2⟩, h3⟩
   exact ⟨(h3 n List.mem_cons_self).1, (h3 n List.mem_cons_self).2, h2, fun x hx => ⟨h1 x hx, (h3 x (List.mem_cons_of_mem _ hx)).2⟩⟩
 · rintro ⟨h1, h2, h3, h4⟩
   refine ⟨⟨fun x hx => (h4 x hx).1, h3⟩, fun x hx => ?_⟩
   rcases List.mem_cons.1 hx with rfl | hx
   · exact ⟨h1, h2⟩
   · have := h4 x hx; exact ⟨by omega, this.2⟩
theorem app_one (w : List Nat) (n : Nat) (t : List Nat) : w ++ [n] ++ t = w ++ n :: t := by simp
theorem leR_spec (S : List Sk) (D : List Nd) (bound : Nat) : ∀ more w a, leP S D bound more w a (leR S D bound more w a)
 | 0, w, a => by
   unfold leR
   split
   · rename_i h
     exact ⟨[], by simp, ⟨List.Pairwise.nil, fun x hx => by cases hx⟩, rfl, h, fun t' _ h2 _ => .inl (List.eq_nil_of_length_eq_zero h2).symm⟩
   · rename_i h
     intro t' _ h2
     rw [List.eq_nil_of_length_eq_zero h2, List.append_nil]
     exact h
 | more + 1, w, a => by
   have hd := fun n => leR_spec S D bound more (w ++ [n]) (n + 1)
   unfold leR
   cases hf : (List.range' a (bound - a)).findSome? fun n => leR S D bound more (w ++ [n]) (n + 1) with
   | none =>
     intro t' h1 h2
     cases t' with
     | nil => cases h2
     | cons n t' =>
       obtain ⟨g1, g2, g3⟩ := incN_cons.1 h1
       have := List.findSome?_eq_none_iff.1 hf n (List.mem_range'_1.2 ⟨g1, by omega⟩)
       have h3 := hd n
       rw [this] at h3
       have := h3 t' g3 (by simpa using h2)
       rwa [app_one] at this
   | some l =>
     obtain ⟨L1, n, L2, e1, e2, e3⟩ := List.findSome?_eq_some_iff.1 hf
     have hn : n = a + L1.length := by
       have h1 : (List.range' a (bound - a))[L1.length]? = some n := by rw [e1]; simp
       have h2 : L1.length < bound - a := by have := congrArg List.length e1; simp at this; omega
       rw [List.getElem?_range' h2] at h1
       have := Option.some.inj h1
       omega
     have hlen : n < bound := by have := congrArg List.length e1; simp at this; omega
     have hbef : ∀ q, a ≤ q → q < n → leR S D bound more (w ++ [q]) (q + 1) = none := fun q h1 h2 => e3 q (by
       have h3 : (List.range' a (bound - a))[q - a]? = some q := by
         rw [List.getElem?_range' (by omega)]
         congr 1
         omega
       rw [e1, List.getElem?_append_left (by omega)] at h3
       exact List.mem_of_getElem? h3)
     have h3 := hd n
     rw [e2] at h3
     obtain ⟨t, rfl, g1, g2, g3, g4⟩ := h3
     refine ⟨n :: t, by simp, incN_cons.2 ⟨by omega, hlen, g1⟩, by simp [g2], g3, fun t' k1 k2 k3 => ?_⟩
     cases t' with
     | nil => cases k2
     | cons q t' =>
       obtain ⟨m1, m2, m3⟩ := incN_cons.1 k1
       rcases Nat.lt_trichotomy n q with h5 | h5 | h5
       · exact .inr (.inl h5)
       · subst h5
         rcases g4 t' m3 (by simpa using k2) (by rw [app_one]; exact k3) with h6 | h6
         · exact .inl (by rw [h6])
         · exact .inr (.inr ⟨rfl, h6⟩)
       · have h6 := hd q
         rw [hbef q m1 h5] at h6
         exact absurd (by rw [app_one]; exact k3) (h6 t' m3 (by simpa using k2))
def hallR (S : List Sk) (D : List Nd) (B : Nat) : Option (List Nat) := (List.range' 1 B).findSome? fun size => leR S D B size [] 0
theorem few_nil {S : List Sk} {D : List Nd} (hc : ∀ s ∈ S, 0 ≤ s.copies) : ¬ few S D [] := by
 have h1 : cpU S D [] = 0 := by
   unfold cpU usU
   clear hc
   induction S with
   | nil => rfl
   | cons s S ih => rw [List.map_cons, List.sum_cons, ih]; rfl
 unfold few
 rw [h1]
 decide
theorem incN_len {l : List Nat} {B : Nat} (h : incN l 0 B) : l.length ≤ B := by
 have := nodup_sub (L := l) (M := List.range B) (h.1.imp fun h => Nat.ne_of_lt h) fun x hx => List.mem_range.2 (h.2 x hx).2
 simpa using this
theorem hallR_spec {S : List Sk} {D : List Nd} (hc : ∀ s ∈ S, 0 ≤ s.copies) {B : Nat} (hex : ∃ w, incN w 0 B ∧ few S D w) : ∃ l, hallR S D B = some l ∧ hallP S D B l := by
 unfold hallR
 cases hf : (List.range' 1 B).findSome? fun size => leR S D B size [] 0 with
 | none =>
   obtain ⟨w, h1, h2⟩ := hex
   have h0 : w.length ≠ 0 := fun e => by
     rw [List.eq_nil_of_length_eq_zero e] at h2
     exact few_nil hc h2
   have := List.findSome?_eq_none_iff.1 hf w.length (List.mem_range'_1.2 ⟨by omega, by have := incN_len h1; omega⟩)
   have h3 := leR_spec S D B w.length [] 0
   rw [this] at h3
   exact absurd h2 (h3 w h1 rfl)
 | some l =>
   obtain ⟨L1, n, L2, e1, e2, e3⟩ := List.findSome?_eq_some_iff.1 hf
   have hn : n = 1 + L1.length := by
     have h1 : (List.range' 1 B)[L1.length]? = some n := by rw [e1]; simp
     have h2 : L1.length < B := by have := congrArg List.length e1; simp at this; omega
     rw [List.getElem?_range' h2] at h1
     have := Option.some.inj h1
     omega
   have hbef : ∀ q, 1 ≤ q → q < n → leR S D B q [] 0 = none := fun q h1 h2 => e3 q (by
     have hlen := congrArg List.length e1
     simp at hlen
     have h3 : (List.range' 1 B)[q - 1]? = some q := by
       rw [List.getElem?_range' (by omega)]
       congr 1
       omega
     rw [e1, List.getElem?_append_left (by omega)] at h3
     exact List.mem_of_getElem? h3)
   have h3 := leR_spec S D B n [] 0
   rw [e2] at h3
   obtain ⟨t, ht, g1, g2, g3, g4⟩ := h3
   rw [List.nil_append] at ht
   subst ht
   simp only [List.nil_append] at g4
   refine ⟨l, rfl, g1, g3, fun m k1 k2 => ?_⟩
   rcases Nat.lt_trichotomy n m.length with h5 | h5 | h5
   · exact .inr (.inl (by omega))
   · rcases g4 m k1 h5.symm k2 with h6 | h6
     · exact .inl h6
     · exact .inr (.inr ⟨by omega, h6⟩)
   · have h6 := leR_spec S D B m.length [] 0
     have h0 : m.length ≠ 0 := fun e => by
       rw [List.eq_nil_of_length_eq_zero e] at k2
       exact few_nil hc k2
     rw [hbef m.length (by omega) h5] at h6
     exact absurd k2 (h6 m k1 rfl)
end Go.Proofs.YthldjgjpokjliaaDoor
