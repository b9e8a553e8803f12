/- Schedules: whether rounds are a service. Conditions: none. -/
import Derived.Test.YthldjgjpokjliaaDoorWd
import Derived.Test.YthldjgjpokjliaaDoorWq
set_option linter.unusedSimpArgs false
set_option linter.unusedVariables false
set_option maxRecDepth 20000
set_option maxHeartbeats 4000000
namespace Go.Proofs.YthldjgjpokjliaaDoor
open Go.Avc
theorem mget_mput {α : Type} [DecidableEq α] (a b : α) (v : PV) : ∀ ms : List (α × PV), mget (mput ms a v) b = if b = a then some v else mget ms b
 | [] => by
   by_cases h : b = a
   · subst h; simp [mget, mput]
   · rw [if_neg h]; simp [mget, mput, Ne.symm h]
 | q :: ms => by
   have ih := mget_mput a b v ms
   unfold mput
   by_cases hq : q.1 = a
   · rw [if_pos hq]
     by_cases h : b = a
     · subst h; simp [mget]
     · rw [if_neg h]
       have : q.1 ≠ b := fun e => h (by rw [← e, hq])
       simp [mget, List.find?_cons, Ne.symm h, this]
   · rw [if_neg hq]
     by_cases h : q.1 = b
     · have hb : b ≠ a := fun e => hq (by rw [h, e])
       rw [if_neg hb]
       simp [mget, List.find?_cons, h]
     · simp only [mget, List.find?_cons, h, decide_false] at ih ⊢
       exact ih
def usL (l : List Int) : List (Int × PV) := (List.range l.length).foldl (fun m i => mput m (l.getD i 0) (.int ((l.take (i + 1)).count (l.getD i 0) : Nat))) []
theorem usL_snoc (l : List Int) (r : Int) : usL (l ++ [r]) = mput (usL l) r (.int ((l.count r : Nat) + 1)) := by
 unfold usL
 rw [List.length_append, List.length_singleton, List.range_succ, List.foldl_append]
 have e : ∀ (L : List Nat) (m : List (Int × PV)), (∀ i ∈ L, i < l.length) → L.foldl (fun m i => mput m ((l ++ [r]).getD i 0) (.int (((l ++ [r]).take (i + 1)).count ((l ++ [r]).getD i 0) : Nat))) m = L.foldl (fun m i => mput m (l.getD i 0) (.int ((l.take (i + 1)).count (l.getD i 0) : Nat))) m := by
   intro L
   induction L with
   | nil => intro m _; rfl
   | cons i L ih =>
     intro m h
     have hi := h i List.mem_cons_self
     have e1 : (l ++ [r]).getD i 0 = l.getD i 0 := by simp [List.getD, List.getElem?_append_left hi]
     have e2 : (l ++ [r]).take (i + 1) = l.take (i + 1) := List.take_append_of_le_length (by omega)
     rw [List.foldl_cons, List.foldl_cons, e1, e2]
     exact ih _ fun j hj => h j (List.mem_cons_of_mem _ hj)
 rw [e _ _ fun i hi => List.mem_range.1 hi]
 have e3 : (l ++ [r]).getD l.length 0 = r := by simp [List.getD]
 have e4 : (l ++ [r]).take (l.length + 1) = l ++ [r] := List.take_of_length_le (by simp)
 rw [List.foldl_cons, List.foldl_nil, e3, e4]
 congr 2
 rw [List.count_append]
 simp
theorem usL_get (r : Int) : ∀ l : List Int, mget (usL l) r = if l.count r = 0 then none else some (.int (l.count r : Nat)) := by
 intro l
 have key : ∀ n, n ≤ l.length → mget (usL (l.take n)) r = if (l.take n).count r = 0 then none else some (.int ((l.take n).count r : Nat)) := by
   intro n
   induction n with
   | zero => intro _; simp [usL, mget]
   | succ n ih =>
     intro hn
     have e : l.take (n + 1) = l.take n ++ [l[n]] := List.take_succ_eq_append_getElem (by omega)
     rw [e, usL_snoc, mget_mput]
     by_cases h : r = l[n]
     · rw [if_pos h, ← h, List.count_append, List.count_singleton_self, if_neg (by omega)]
       rfl
     · have hz : [l[n]].count r = 0 := List.count_eq_zero.2 fun hm => h (List.mem_singleton.1 hm)
       rw [if_neg h, ih (by omega), List.count_append, hz, Nat.add_zero]
 have := key l.length (Nat.le_refl _)
 rwa [List.take_length] at this
theorem usL_getD (r : Int) (l : List Int) : (mget (usL l) r).getD (.int 0) = .int (l.count r : Nat) := by
 rw [usL_get]
 split
 · rename_i h; rw [h]; rfl
 · rfl
def stepP (S : List Sk) (D : List Nd) (rs : List Int) (i : Nat) : Prop := ∃ j, ∃ hj : j < S.length, S[j].round = rs.getD i 0 ∧ usesB (D.getD i nd0) S[j] = true ∧ (((rs.take (i + 1)).count (rs.getD i 0) : Nat) : Int) ≤ S[j].copies
def srvP (S : List Sk) (D : List Nd) (rs : List Int) : Prop := rs.length ≤ D.length ∧ ∀ i, i < rs.length → stepP S D rs i
noncomputable instance (S : List Sk) (D : List Nd) (rs : List Int) : Decidable (srvP S D rs) := Classical.propDecidable _
theorem rdist_one {S : List Sk} (h : rdist S) {i j : Nat} (hi : i < S.length) (hj : j < S.length) (e : S[i].round = S[j].round) : i = j := by
 rcases Nat.lt_trichotomy i j with h1 | h1 | h1
 · have := rdist_lt h hi hj h1; omega
 · exact h1
 · have := rdist_lt h hj hi h1; omega
attribute [local irreducible] PSub Wp PSpec Le Need Both
theorem serves_spec (S : List Sk) (D : List Nd) (rs : List Int) (hd : rdist S) (hS : S.length ≤ 1000) (hD : D.length ≤ 1000) (hn : ∀ n ∈ D, n.rounds.length ≤ 1000) (hrs : rs.length ≤ 1000) : PSpec Tryd.prog 21 [encSks S, encNds D, encIs rs] (.bool (decide (srvP S D rs))) := by
 have lS : (S.map encSk).length = S.length := List.length_map ..
 have lD : (D.map encNd).length = D.length := List.length_map ..
 have lR : (rs.map fun x => [PV.int x]).length = rs.length := List.length_map ..
 by_cases h0 : rs.length ≤ D.length
 case neg =>
   rw [decide_eq_false fun h => h0 h.1]
   refine PSpec.of_vc (fun Γ => more8 false Γ.P Γ.fx) (fun Γ => more8_ok) Tryd.func21 rfl Tryd.call21 (by simp) ?_
   rintro ⟨P, N, w0, X, β0, fx, y, hy, pk, df⟩ rfl rfl rfl hoff rfl; change y.on = false at hoff
   repeat' ((try conv => whnf); first|(first|refine k3 ?_ ?_|refine k4 ?_ ?_) <;> intro hb <;> (try rw [lM] at hb) <;> try (exfalso; omega)|fail)
   exact PSub.refl _
 refine PSpec.of_vc (fun Γ => more8 false Γ.P Γ.fx) (fun Γ => more8_ok) Tryd.func21 rfl Tryd.call21 (by simp) ?_
 rintro ⟨P, N, w0, X, β0, fx, y, hy, pk, df⟩ rfl rfl rfl hoff rfl; change y.on = false at hoff
 repeat' ((try conv => whnf); first|(first|refine k3 ?_ ?_|refine k4 ?_ ?_) <;> intro hb <;> (try rw [lM] at hb) <;> try (exfalso; omega)|fail)
 refine Wp.loop (fun i : Nat => ⟨[(0, .pure (encSks S)), (1, .pure (encNds D)), (7, .mp 18), (19, .pure (encIs rs)), (20, .int rs.length), (21, .int i)], [(18, some (.mp (intK.enc (usL (rs.take i)))))], [18]⟩) (fun i => i ≤ rs.length ∧ ∀ j, j < i → stepP S D rs j) (fun i => rs.length - i) 0
   (Le.of ?_ ?_ rfl rfl rfl) ⟨Nat.zero_le _, fun j hj => absurd hj (Nat.not_lt_zero _)⟩ ?_
 · (repeat' (first|exact trivial|refine aq ?_ ?_|exact oq|exact l1 bd|fail))
 · (repeat' (first|exact trivial|exact rfl|refine aq ?_ ?_|fail))
 rintro i ⟨hi, hok⟩
 by_cases hi2 : i < rs.length
 · have hri : rs.getD i 0 = rs[i] := getD_at hi2 0
   have htk : rs.take (i + 1) = rs.take i ++ [rs[i]] := List.take_succ_eq_append_getElem hi2
   have hcnt : (rs.take (i + 1)).count rs[i] = (rs.take i).count rs[i] + 1 := by rw [htk, List.count_append, List.count_singleton_self]
   have hcl : (rs.take i).count rs[i] ≤ 1000 := by
     have := List.count_le_length (a := rs[i]) (l := rs.take i)
     rw [List.length_take] at this
     omega
   have hg1 := usL_getD rs[i] (rs.take i)
   have hp1 := usL_snoc (rs.take i) rs[i]
   rw [← htk] at hp1
   have hg2 := usL_getD rs[i] (rs.take (i + 1))
   rw [hcnt] at hg2
   have hDg : D.getD i nd0 = D[i] := getD_at (by omega) nd0
   have hnD : D[i].rounds.length ≤ 1000 := hn _ (List.getElem_mem (by omega))
   have hst : stepP S D rs i ↔ ∃ j, ∃ hj : j < S.length, S[j].round = rs[i] ∧ usesB D[i] S[j] = true ∧ ((((rs.take i).count rs[i] + 1 : Nat) : Nat) : Int) ≤ S[j].copies := by
     unfold stepP
     rw [hri, hDg, hcnt]
   have hno : ¬ stepP S D rs i → decide (srvP S D rs) = false := fun h => decide_eq_false fun h2 => h (h2.2 i hi2)
   obtain ⟨c, hc⟩ : ∃ c, c = (rs.take i).count rs[i] := ⟨_, rfl⟩
   rw [← hc] at hg1 hp1 hg2 hst hcl
   refine code_sound (more := more8 false _ _) more8_ok FOK.wide _ ?_
   repeat' ((try conv => whnf); first|(first|refine k3 ?_ ?_|refine k4 ?_ ?_) <;> intro hb <;> (try rw [lM] at hb) <;> try (exfalso; omega)|refine s5 nm nm ?_|fail)
   refine Wp.loop (fun ka : Nat × Int => ⟨[(0, .pure (encSks S)), (1, .pure (encNds D)), (7, .mp 18), (8, .int i), (9, .int rs[i]), (10, .int ka.2), (19, .pure (encIs rs)), (20, .int rs.length), (21, .int i), (26, .pure (encSks S)), (27, .int S.length), (28, .int ka.1)], [(18, some (.mp (intK.enc (usL (rs.take i)))))], [18]⟩)
     (fun ka => ka.1 ≤ S.length ∧ ((ka.2 = -1 ∧ ∀ j (hj : j < S.length), j < ka.1 → S[j].round ≠ rs[i]) ∨ ∃ j, ∃ hj : j < S.length, j < ka.1 ∧ ka.2 = j ∧ S[j].round = rs[i])) (fun ka => S.length - ka.1) (0, -1)
     (Le.of ?_ ?_ rfl rfl rfl) ⟨Nat.zero_le _, .inl ⟨rfl, fun j _ hj => absurd hj (Nat.not_lt_zero _)⟩⟩ ?_
   · (repeat' (first|exact trivial|refine aq ?_ ?_|exact oq|exact l1 bd|fail))
   · (repeat' (first|exact trivial|exact rfl|refine aq ?_ ?_|fail))
   rintro ⟨k, at'⟩ ⟨hk, hat⟩
   simp only at hk hat ⊢
   by_cases hk2 : k < S.length
   · by_cases he : S[k].round = rs[i]
     · refine code_sound (more := more8 false _ _) more8_ok FOK.wide _ ?_
       repeat' ((try conv => whnf); first|(first|refine k3 ?_ ?_|refine k4 ?_ ?_) <;> intro hb <;> (try rw [lM] at hb) <;> try (exfalso; omega)|refine aq rfl ?_|refine s4 nm ?_|refine s5 nm nm ?_|fail)
       exact ⟨(k + 1, (k : Int)), Le.of (by (repeat' (first|exact trivial|refine aq ?_ ?_|exact oq|fail))) (by (repeat' (first|exact trivial|exact rfl|refine aq ?_ ?_|fail))) rfl rfl rfl, ⟨hk2, .inr ⟨k, hk2, Nat.lt_succ_self k, rfl, he⟩⟩, by show S.length - (k + 1) < S.length - k; omega⟩
     · refine code_sound (more := more8 false _ _) more8_ok FOK.wide _ ?_
       repeat' ((try conv => whnf); first|(first|refine k3 ?_ ?_|refine k4 ?_ ?_) <;> intro hb <;> (try rw [lM] at hb) <;> try (exfalso; omega)|refine aq rfl ?_|refine s4 nm ?_|refine s5 nm nm ?_|fail)
       refine ⟨(k + 1, at'), Le.of (by (repeat' (first|exact trivial|refine aq ?_ ?_|exact oq|fail))) (by (repeat' (first|exact trivial|exact rfl|refine aq ?_ ?_|fail))) rfl rfl rfl, ⟨hk2, ?_⟩, by show S.length - (k + 1) < S.length - k; omega⟩
       rcases hat with ⟨h1, h2⟩ | ⟨j, hj, h1, h2, h3⟩
       · refine .inl ⟨h1, fun j hj hjk => ?_⟩
         rcases Nat.lt_succ_iff_lt_or_eq.1 hjk with h3 | rfl
         · exact h2 j hj h3
         · exact he
       · exact .inr ⟨j, hj, Nat.lt_succ_of_lt h1, h2, h3⟩
   · have e : k = S.length := by omega
     subst e
     rcases hat with ⟨rfl, h2⟩ | ⟨j, hj, _, rfl, h3⟩
     · rw [hno fun h => by
         obtain ⟨j, hj, h4, _⟩ := hst.1 h
         exact h2 j hj hj h4]
       refine code_sound (more := more8 false _ _) more8_ok FOK.wide _ ?_
       repeat' ((try conv => whnf); first|(first|refine k3 ?_ ?_|refine k4 ?_ ?_) <;> intro hb <;> (try rw [lM] at hb) <;> try (exfalso; omega)|fail)
       refine Wp.draw (more := more8 true _ _) more8_det more8_ok FOK.wide rfl (by decide +kernel) (by conv => lhs; reduce) ?_
       skip
       exact PSub.refl _
     · have qu := uses_spec D[i] S[j] (by omega)
       cases hu : usesB D[i] S[j] with
       | false =>
         rw [hu] at qu
         rw [hno fun h => by
           obtain ⟨j', hj', h4, h5, _⟩ := hst.1 h
           have := rdist_one hd hj hj' (by rw [h3, h4])
           subst this
           rw [hu] at h5; cases h5]
         refine code_sound (more := more8 false _ _) more8_ok FOK.wide _ ?_
         repeat' ((try conv => whnf); first|(first|refine k3 ?_ ?_|refine k4 ?_ ?_) <;> intro hb <;> (try rw [lM] at hb) <;> try (exfalso; omega)|fail)
         refine Wp.draw (more := more8 true _ _) more8_det more8_ok FOK.wide rfl (by decide +kernel) (by conv => lhs; reduce) ?_
         repeat' ((try conv => whnf); first|refine s5 nm nm ?_|fail)
         refine ⟨_, qu, ?_⟩
         skip
         exact PSub.refl _
       | true =>
         rw [hu] at qu
         by_cases hcc : ((c + 1 : Nat) : Int) ≤ S[j].copies
         · refine code_sound (more := more8 false _ _) more8_ok FOK.wide _ ?_
           repeat' ((try conv => whnf); first|(first|refine k3 ?_ ?_|refine k4 ?_ ?_) <;> intro hb <;> (try rw [lM] at hb) <;> try (exfalso; omega)|fail)
           refine Wp.draw (more := more8 true _ _) more8_det more8_ok FOK.wide rfl (by decide +kernel) (by conv => lhs; reduce) ?_
           repeat' ((try conv => whnf); first|refine s5 nm nm ?_|fail)
           refine ⟨_, qu, ?_⟩
           skip
           refine ⟨Int, inferInstance, intK, rs[i], usL (rs.take i), by kernel_rfl, rfl, rfl, _, hg1, ?_⟩
           repeat' ((try conv => whnf); first|refine s4 nm ?_|fail)
           refine ⟨Int, inferInstance, intK, rs[i], usL (rs.take i), _, by kernel_rfl, rfl, rfl, hp1.symm, ?_⟩
           skip
           refine Wp.draw (more := more8 true _ _) more8_det more8_ok FOK.wide rfl (by decide +kernel) (by conv => lhs; reduce) ?_
           skip
           refine ⟨Int, inferInstance, intK, rs[i], usL (rs.take (i + 1)), by kernel_rfl, rfl, rfl, _, hg2, ?_⟩
           repeat' ((try conv => whnf); first|(first|refine k3 ?_ ?_|refine k4 ?_ ?_) <;> intro hb <;> (try rw [lM] at hb) <;> try (exfalso; omega)|refine s4 nm ?_|refine s5 nm nm ?_|fail)
           refine ⟨i + 1, Le.of (by (repeat' (first|exact trivial|refine aq ?_ ?_|exact oq|fail))) (by (repeat' (first|exact trivial|exact rfl|refine aq ?_ ?_|fail))) rfl rfl rfl, ⟨hi2, fun q hq => ?_⟩, by omega⟩
           rcases Nat.lt_succ_iff_lt_or_eq.1 hq with h4 | rfl
           · exact hok q h4
           · exact hst.2 ⟨j, hj, h3, hu, hcc⟩
         · rw [hno fun h => by
             obtain ⟨j', hj', h4, h5, h6⟩ := hst.1 h
             have := rdist_one hd hj hj' (by rw [h3, h4])
             subst this
             exact hcc h6]
           refine code_sound (more := more8 false _ _) more8_ok FOK.wide _ ?_
           repeat' ((try conv => whnf); first|(first|refine k3 ?_ ?_|refine k4 ?_ ?_) <;> intro hb <;> (try rw [lM] at hb) <;> try (exfalso; omega)|fail)
           refine Wp.draw (more := more8 true _ _) more8_det more8_ok FOK.wide rfl (by decide +kernel) (by conv => lhs; reduce) ?_
           repeat' ((try conv => whnf); first|refine s5 nm nm ?_|fail)
           refine ⟨_, qu, ?_⟩
           skip
           refine ⟨Int, inferInstance, intK, rs[i], usL (rs.take i), by kernel_rfl, rfl, rfl, _, hg1, ?_⟩
           repeat' ((try conv => whnf); first|refine s4 nm ?_|fail)
           refine ⟨Int, inferInstance, intK, rs[i], usL (rs.take i), _, by kernel_rfl, rfl, rfl, hp1.symm, ?_⟩
           skip
           refine Wp.draw (more := more8 true _ _) more8_det more8_ok FOK.wide rfl (by decide +kernel) (by conv => lhs; reduce) ?_
           skip
           refine ⟨Int, inferInstance, intK, rs[i], usL (rs.take (i + 1)), by kernel_rfl, rfl, rfl, _, hg2, ?_⟩
           repeat' ((try conv => whnf); first|(first|refine k3 ?_ ?_|refine k4 ?_ ?_) <;> intro hb <;> (try rw [lM] at hb) <;> try (exfalso; omega)|refine s5 nm nm ?_|fail)
           exact PSub.refl _
 · have e : i = rs.length := by omega
   subst e
   rw [decide_eq_true (show srvP S D rs from ⟨h0, hok⟩)]
   refine code_sound (more := more8 false _ _) more8_ok FOK.wide _ ?_
   repeat' ((try conv => whnf); first|(first|refine k3 ?_ ?_|refine k4 ?_ ?_) <;> intro hb <;> (try rw [lM] at hb) <;> try (exfalso; omega)|fail)
   exact PSub.refl _
end Go.Proofs.YthldjgjpokjliaaDoor
/- Schedules: services as the law sees them; the laws None and Proved. Conditions: none. -/
namespace Go.Proofs.YthldjgjpokjliaaDoor
open Go.Avc
theorem natI_count (r : Nat) : ∀ l : List Nat, (natI l).count (r : Int) = l.count r
 | [] => rfl
 | a :: l => by
   have ih := natI_count r l
   unfold natI at ih ⊢
   rw [List.map_cons, List.count_cons, List.count_cons, ih]
   congr 1
   by_cases h : a = r
   · subst h; simp
   · have h2 : ¬ (a : Int) = r := by omega
     simp [h, h2]
theorem natI_take (l : List Nat) (n : Nat) : (natI l).take n = natI (l.take n) := by unfold natI; rw [List.map_take]
theorem natI_getD {l : List Nat} {i : Nat} (h : i < l.length) : (natI l).getD i 0 = (l.getD i 0 : Nat) := by
 have h2 : i < (natI l).length := by rw [natI_len]; exact h
 rw [getD_at h2, natI_get h2]
theorem srv_svc {S : List Sk} {D : List Nd} {rs : List Int} (h : rok S) (hc : ∀ s ∈ S, 0 ≤ s.copies) (hp : srvP S D rs) : ∃ l, rs = natI l ∧ isSvc (msS D S) (cpS S) l := by
 have hnat : ∀ i, i < rs.length → 0 ≤ rs.getD i 0 := fun i hi => by
   obtain ⟨j, hj, e, _⟩ := hp.2 i hi
   rw [← e]
   exact (h.2 _ (List.getElem_mem hj)).1
 have e1 : rs = natI (rs.map Int.toNat) := by
   refine List.ext_getElem (by simp [natI]) fun i h1 h2 => ?_
   have := hnat i h1
   rw [getD_at h1] at this
   simp [natI]
   omega
 obtain ⟨l, hl⟩ : ∃ l, l = rs.map Int.toNat := ⟨_, rfl⟩
 rw [← hl] at e1
 subst e1
 have hll := natI_len l
 have hstep : ∀ i, i < l.length → ∃ j, ∃ hj : j < S.length, S[j].round = (l.getD i 0 : Nat) ∧ usesB (D.getD i nd0) S[j] = true ∧ ((l.take (i + 1)).count (l.getD i 0) : Int) ≤ S[j].copies := fun i hi => by
   have := hp.2 i (by omega)
   unfold stepP at this
   rw [natI_getD hi, natI_take, natI_count] at this
   exact this
 refine ⟨l, rfl, ⟨by rw [msS_len, ← hll]; exact hp.1, fun i hi => ?_, fun r => ?_⟩⟩
 · obtain ⟨j, hj, e, hu, _⟩ := hstep i hi
   have := uses_bit h (List.getElem_mem hj) hu
   rwa [e, Int.toNat_natCast] at this
 · have key : ∀ n, n ≤ l.length → (l.take n).count r ≤ (cpS S).getD r 0 := by
     intro n
     induction n with
     | zero => intro _; simp
     | succ n ih =>
       intro hn
       have et : l.take (n + 1) = l.take n ++ [l[n]] := List.take_succ_eq_append_getElem (by omega)
       by_cases hr : l[n] = r
       · obtain ⟨j, hj, e, _, hcc⟩ := hstep n (by omega)
         rw [getD_at (by omega : n < l.length), hr] at e hcc
         have h2 := cpS_at h hj
         rw [e, Int.toNat_natCast] at h2
         omega
       · have hz : [l[n]].count r = 0 := List.count_eq_zero.2 fun hm => hr (List.mem_singleton.1 hm).symm
         rw [et, List.count_append, hz, Nat.add_zero]
         exact ih (by omega)
   have := key l.length (Nat.le_refl _)
   rwa [List.take_length] at this
theorem svc_srv {S : List Sk} {D : List Nd} {l : List Nat} (h : rok S) (hc : ∀ s ∈ S, 0 ≤ s.copies) (hp : isSvc (msS D S) (cpS S) l) : srvP S D (natI l) := by
 have hlen := hp.len
 rw [msS_len] at hlen
 refine ⟨by rw [natI_len]; exact hlen, fun i hi => ?_⟩
 rw [natI_len] at hi
 have hb := hp.can i hi
 rcases usM_get (D := D) (S := S) i with e | e
 · rw [e, usM_bit _ _ fun s hs => (h.2 s hs).1, List.any_eq_true] at hb
   obtain ⟨s, hs, h1⟩ := hb
   rw [Bool.and_eq_true] at h1
   have e1 := of_decide_eq_true h1.1
   obtain ⟨j, hj, rfl⟩ := List.getElem_of_mem hs
   unfold stepP
   rw [natI_getD hi, natI_take, natI_count]
   refine ⟨j, hj, e1, h1.2, ?_⟩
   have h2 := cpS_at h hj
   rw [e1, Int.toNat_natCast] at h2
   have h3 := hp.room (l.getD i 0)
   have h4 := (List.take_sublist (i + 1) l).count_le (l.getD i 0)
   have h5 := hc _ (List.getElem_mem hj)
   omega
 · omega
theorem isSvc_take {al cp l : List Nat} {n : Nat} (h : isSvc al cp l) (hn : l.length ≤ n) : isSvc (al.take n) cp l := by
 have h2 := h.len
 refine ⟨by rw [List.length_take]; omega, fun j hj => ?_, h.room⟩
 have h1 := h.can j hj
 rw [getD_at (d := 0) (show j < al.length by omega)] at h1
 rw [getD_at (d := 0) (show j < (al.take n).length by rw [List.length_take]; omega), List.getElem_take]
 exact h1
theorem lexN_diff : ∀ {l m : List Nat} {i : Nat}, lexN l m → l.length = m.length → i < l.length → (∀ j, j < i → l.getD j 0 = m.getD j 0) → l.getD i 0 ≠ m.getD i 0 → l.getD i 0 < m.getD i 0
 | a :: l, b :: m, 0, h, _, _, _, hd => by
   rcases h with h | ⟨h, _⟩
   · exact h
   · exact absurd h hd
 | a :: l, b :: m, i + 1, h, hl, hi, hp, hd => by
   have h0 : a = b := hp 0 (Nat.zero_lt_succ i)
   rcases h with h | ⟨_, h⟩
   · omega
   · exact lexN_diff (l := l) (m := m) h (by simpa using hl) (by simpa using hi) (fun j hj => hp (j + 1) (by omega)) hd
theorem lgR_svc {S : List Sk} {D : List Nd} (h : rok S) (hc : ∀ s ∈ S, 0 ≤ s.copies) : srvP S D (lgR D S) := by
 obtain ⟨l0, e, hl⟩ := lgR_spec (D := D) h hc
 rw [e]
 exact svc_srv h hc (isSvc_untake hl.1)
theorem lgR_most {S : List Sk} {D : List Nd} {rs : List Int} (h : rok S) (hc : ∀ s ∈ S, 0 ≤ s.copies) (hp : srvP S D rs) : rs.length ≤ (lgR D S).length := by
 obtain ⟨l, rfl, hl⟩ := srv_svc h hc hp
 rw [lgR_len h hc, natI_len]
 exact Sat.le ⟨l, hl, rfl⟩
theorem lgR_least {S : List Sk} {D : List Nd} {rs : List Int} (h : rok S) (hc : ∀ s ∈ S, 0 ≤ s.copies) (hp : srvP S D rs) (hl : rs.length = (lgR D S).length) {i : Nat} (hi : i < rs.length) (hpre : ∀ j, j < i → (lgR D S).getD j 0 = rs.getD j 0) (hd : (lgR D S).getD i 0 ≠ rs.getD i 0) : (lgR D S).getD i 0 < rs.getD i 0 := by
 obtain ⟨l, rfl, hs⟩ := srv_svc h hc hp
 have hn := lgR_len (D := D) h hc
 obtain ⟨l0, e, hl0⟩ := lgR_spec (D := D) h hc
 rw [e] at hl hpre hd hn ⊢
 rw [natI_len] at hl hi hn
 rw [natI_len] at hl
 rcases hl0.2.2 l (isSvc_take hs (by omega)) (by omega) with h1 | h1
 · subst h1; exact absurd rfl hd
 · rw [natI_getD (by omega), natI_getD hi] at hd ⊢
   have := lexN_diff h1 (by omega) (i := i) (by omega) (fun j hj => by
     have := hpre j hj
     rw [natI_getD (by omega), natI_getD (by omega)] at this
     omega) (fun e => hd (by rw [e]))
   omega
attribute [local irreducible] PSub Wp PSpec Le Need Both
attribute [local irreducible] lgR hallO chkE
theorem none_law (S : List Sk) (D : List Nd) (rs : List Int) (h : Reach S D) (hrs : rs.length ≤ 140737488355328) : PSpec Tryd.prog 7 [encSks S, encNds D, encIs rs] (.bool true) := by
 obtain ⟨hS, hD, hn, h48⟩ := h
 have lR : (rs.map fun x => [PV.int x]).length = rs.length := List.length_map ..
 have qf := few_in_spec S D hS hD hn
 by_cases hf : fewIn S D
 case neg =>
   rw [decide_eq_false hf] at qf
   refine PSpec.of_vc (fun Γ => more8 false Γ.P Γ.fx) (fun Γ => more8_ok) Tryd.func7 rfl Tryd.call7 (by simp) ?_
   rintro ⟨P, N, w0, X, β0, fx, y, hy, pk, df⟩ rfl rfl rfl hoff rfl; change y.on = false at hoff
   skip
   refine .inl ⟨_, sane_spec, ?_⟩
   skip
   refine .inl ⟨_, qf, ?_⟩
   skip
   exact PSub.refl _
 rw [decide_eq_true hf] at qf
 by_cases h8 : rs.length ≤ 8
 case neg =>
   refine PSpec.of_vc (fun Γ => more8 false Γ.P Γ.fx) (fun Γ => more8_ok) Tryd.func7 rfl Tryd.call7 (by simp) ?_
   rintro ⟨P, N, w0, X, β0, fx, y, hy, pk, df⟩ rfl rfl rfl hoff rfl; change y.on = false at hoff
   skip
   refine .inl ⟨_, sane_spec, ?_⟩
   skip
   refine .inl ⟨_, qf, ?_⟩
   repeat' ((try conv => whnf); first|(first|refine k3 ?_ ?_|refine k4 ?_ ?_) <;> intro hb <;> (try rw [lM] at hb) <;> try (exfalso; omega)|fail)
   exact PSub.refl _
 have hsm := fewIn_small hf
 have q1 := Longest_spec S D hsm
 by_cases hk : chkP S D
 case neg =>
   rw [show lgE S D = .tup [encIs [], .int 320] from if_neg hk] at q1
   refine PSpec.of_vc (fun Γ => more8 false Γ.P Γ.fx) (fun Γ => more8_ok) Tryd.func7 rfl Tryd.call7 (by simp) ?_
   rintro ⟨P, N, w0, X, β0, fx, y, hy, pk, df⟩ rfl rfl rfl hoff rfl; change y.on = false at hoff
   skip
   refine .inl ⟨_, sane_spec, ?_⟩
   skip
   refine .inl ⟨_, qf, ?_⟩
   repeat' ((try conv => whnf); first|(first|refine k3 ?_ ?_|refine k4 ?_ ?_) <;> intro hb <;> (try rw [lM] at hb) <;> try (exfalso; omega)|fail)
   refine .inl ⟨_, q1, ?_⟩
   repeat' ((try conv => whnf); first|refine aq rfl ?_|fail)
   exact PSub.refl _
 rw [show lgE S D = .tup [encIs (lgR D S), .int 0] from if_pos hk] at q1
 obtain ⟨hr, hc0⟩ := chk_rok hk
 have hlb := lgR_bd hk
 have hD6 := hf.2.2
 have qs := serves_spec S D rs hr.1 hsm.hS hsm.hD hsm.hn (by omega)
 by_cases hsv : srvP S D rs
 case neg =>
   rw [decide_eq_false hsv] at qs
   refine PSpec.of_vc (fun Γ => more8 false Γ.P Γ.fx) (fun Γ => more8_ok) Tryd.func7 rfl Tryd.call7 (by simp) ?_
   rintro ⟨P, N, w0, X, β0, fx, y, hy, pk, df⟩ rfl rfl rfl hoff rfl; change y.on = false at hoff
   skip
   refine .inl ⟨_, sane_spec, ?_⟩
   skip
   refine .inl ⟨_, qf, ?_⟩
   repeat' ((try conv => whnf); first|(first|refine k3 ?_ ?_|refine k4 ?_ ?_) <;> intro hb <;> (try rw [lM] at hb) <;> try (exfalso; omega)|fail)
   refine .inl ⟨_, q1, ?_⟩
   repeat' ((try conv => whnf); first|refine aq rfl ?_|fail)
   refine .inl ⟨_, qs, ?_⟩
   skip
   exact PSub.refl _
 rw [decide_eq_true hsv] at qs
 have hmost := lgR_most hr hc0 hsv
 have hleast := fun (hl : rs.length = (lgR D S).length) (i : Nat) hi hpre hd => lgR_least hr hc0 hsv hl (i := i) hi hpre hd
 obtain ⟨L, hL⟩ : ∃ L, L = lgR D S := ⟨_, rfl⟩
 rw [← hL] at q1 hlb hmost hleast
 have lL : (L.map fun x => [PV.int x]).length = L.length := List.length_map ..
 by_cases hll : rs.length = L.length
 case neg =>
   refine PSpec.of_vc (fun Γ => more8 false Γ.P Γ.fx) (fun Γ => more8_ok) Tryd.func7 rfl Tryd.call7 (by simp) ?_
   rintro ⟨P, N, w0, X, β0, fx, y, hy, pk, df⟩ rfl rfl rfl hoff rfl; change y.on = false at hoff
   skip
   refine .inl ⟨_, sane_spec, ?_⟩
   skip
   refine .inl ⟨_, qf, ?_⟩
   repeat' ((try conv => whnf); first|(first|refine k3 ?_ ?_|refine k4 ?_ ?_) <;> intro hb <;> (try rw [lM] at hb) <;> try (exfalso; omega)|fail)
   refine .inl ⟨_, q1, ?_⟩
   repeat' ((try conv => whnf); first|refine aq rfl ?_|fail)
   refine .inl ⟨_, qs, ?_⟩
   repeat' ((try conv => whnf); first|(first|refine k3 ?_ ?_|refine k4 ?_ ?_) <;> intro hb <;> (try rw [lM] at hb) <;> try (exfalso; omega)|fail)
   exact PSub.val_bool (by simp; omega)
 refine PSpec.of_vc (fun Γ => more8 false Γ.P Γ.fx) (fun Γ => more8_ok) Tryd.func7 rfl Tryd.call7 (by simp) ?_
 rintro ⟨P, N, w0, X, β0, fx, y, hy, pk, df⟩ rfl rfl rfl hoff rfl; change y.on = false at hoff
 skip
 refine .inl ⟨_, sane_spec, ?_⟩
 skip
 refine .inl ⟨_, qf, ?_⟩
 repeat' ((try conv => whnf); first|(first|refine k3 ?_ ?_|refine k4 ?_ ?_) <;> intro hb <;> (try rw [lM] at hb) <;> try (exfalso; omega)|fail)
 refine .inl ⟨_, q1, ?_⟩
 repeat' ((try conv => whnf); first|refine aq rfl ?_|fail)
 refine .inl ⟨_, qs, ?_⟩
 repeat' ((try conv => whnf); first|(first|refine k3 ?_ ?_|refine k4 ?_ ?_) <;> intro hb <;> (try rw [lM] at hb) <;> try (exfalso; omega)|fail)
 refine Wp.loop (fun i : Nat => ⟨[(2, .pure (encIs rs)), (7, .pure (encIs L)), (47, .int L.length), (48, .int i)], [], []⟩) (fun i => i ≤ L.length ∧ ∀ j, j < i → L.getD j 0 = rs.getD j 0) (fun i => L.length - i) 0
   (Le.of ?_ ?_ rfl rfl rfl) ⟨Nat.zero_le _, fun j hj => absurd hj (Nat.not_lt_zero _)⟩ ?_
 · (repeat' (first|exact trivial|refine aq ?_ ?_|exact oq|exact l1 bd|fail))
 · (repeat' (first|exact trivial|fail))
 rintro i ⟨hi, hpre⟩
 by_cases hi2 : i < L.length
 · have hi3 : i < rs.length := by omega
   have g1 : L.getD i 0 = L[i] := getD_at hi2 0
   have g2 : rs.getD i 0 = rs[i] := getD_at hi3 0
   by_cases he : L[i] = rs[i]
   · refine code_sound (more := more8 false _ _) more8_ok FOK.wide _ ?_
     repeat' ((try conv => whnf); first|(first|refine k3 ?_ ?_|refine k4 ?_ ?_) <;> intro hb <;> (try rw [lM] at hb) <;> try (exfalso; omega)|fail)
     refine Wp.draw (more := more8 true _ _) more8_det more8_ok FOK.wide rfl (by decide +kernel) (by conv => lhs; reduce) ?_
     repeat' ((try conv => whnf); first|(first|refine k3 ?_ ?_|refine k4 ?_ ?_) <;> intro hb <;> (try rw [lM] at hb) <;> try (exfalso; omega)|refine s4 nm ?_|refine s5 nm nm ?_|fail)
     refine ⟨i + 1, Le.of (by (repeat' (first|exact trivial|refine aq ?_ ?_|exact oq|fail))) (by (repeat' (first|exact trivial|fail))) rfl rfl rfl, ⟨by omega, fun j hj => ?_⟩, by omega⟩
     rcases Nat.lt_succ_iff_lt_or_eq.1 hj with h1 | rfl
     · exact hpre j h1
     · rw [g1, g2, he]
   · have hlt := hleast hll i hi3 hpre (by rw [g1, g2]; exact he)
     rw [g1, g2] at hlt
     refine code_sound (more := more8 false _ _) more8_ok FOK.wide _ ?_
     repeat' ((try conv => whnf); first|(first|refine k3 ?_ ?_|refine k4 ?_ ?_) <;> intro hb <;> (try rw [lM] at hb) <;> try (exfalso; omega)|fail)
     refine Wp.draw (more := more8 true _ _) more8_det more8_ok FOK.wide rfl (by decide +kernel) (by conv => lhs; reduce) ?_
     repeat' ((try conv => whnf); first|(first|refine k3 ?_ ?_|refine k4 ?_ ?_) <;> intro hb <;> (try rw [lM] at hb) <;> try (exfalso; omega)|refine s5 nm nm ?_|fail)
     refine Wp.draw (more := more8 true _ _) more8_det more8_ok FOK.wide rfl (by decide +kernel) (by conv => lhs; reduce) ?_
     repeat' ((try conv => whnf); first|refine s5 nm nm ?_|fail)
     exact PSub.val_bool (by simp; omega)
 · have e : i = L.length := by omega
   subst e
   refine code_sound (more := more8 false _ _) more8_ok FOK.wide _ ?_
   repeat' ((try conv => whnf); first|(first|refine k3 ?_ ?_|refine k4 ?_ ?_) <;> intro hb <;> (try rw [lM] at hb) <;> try (exfalso; omega)|fail)
   exact PSub.refl _
end Go.Proofs.YthldjgjpokjliaaDoor
