/- Networks: the reference's Check, Send, Deliver, Lose, Repeat. Conditions: none. -/
import Derived.Test.YtlploeedieenbaaWd
import Derived.Test.YtlploeedieenbaaWf
import Derived.Test.YtlploeedieenbaaWg
set_option linter.unusedSimpArgs false
set_option linter.unusedVariables false
namespace Go.Proofs.Ytlploeedieenbaa
open Go.Avc
set_option maxRecDepth 20000
set_option maxHeartbeats 4000000
set_option linter.unusedSimpArgs false
attribute [local irreducible] PSub Wp PSpec Le Need Both
theorem site_spec (a : Int) : PSpec Try.prog 36 [.int a] (.bool (decide (0 ≤ a ∧ a < 16))) := by
  refine PSpec.of_vc (fun Γ => more7 false Γ.P Γ.fx) (fun Γ => more7_ok) Try.func36 rfl Try.call36 (by simp) ?_
  rintro ⟨P, N, w0, X, β0, fx, y, hy, pk, df⟩ rfl rfl rfl hoff rfl; change y.on = false at hoff
  repeat' ((try conv => whnf); first | (first | refine k3 (fun hb => ?_) fun hb => ?_ | refine k4 (fun hb => ?_) fun hb => ?_) <;> (try rw [List.length_map] at hb) <;> (try (exfalso; omega; done)) | fail)
  all_goals refine PSub.of_eq (congrArg (fun b => PV.val (.bool b)) ?_)
  all_goals first | exact (decide_eq_false (by omega)).symm | exact decide_eq_decide.2 (by omega)
theorem rpacket_spec (p : Pk) : PSpec Try.prog 31 [.agg (encPk p)] (.bool (decide p.ok)) := by
  have q1 := site_spec p.src
  have q2 := site_spec p.dst
  refine PSpec.of_vc (fun Γ => more7 false Γ.P Γ.fx) (fun Γ => more7_ok) Try.func31 rfl Try.call31 (by simp) ?_
  rintro ⟨P, N, w0, X, β0, fx, y, hy, pk, df⟩ rfl rfl rfl hoff rfl; change y.on = false at hoff
  skip
  refine .inl ⟨_, q1, ?_⟩
  repeat' ((try conv => whnf); first | (first | refine k3 (fun hb => ?_) fun hb => ?_ | refine k4 (fun hb => ?_) fun hb => ?_) <;> (try rw [List.length_map] at hb) <;> (try (exfalso; omega; done)) | fail)
  · refine .inl ⟨_, q2, ?_⟩
    repeat' ((try conv => whnf); first | (first | refine k3 (fun hb => ?_) fun hb => ?_ | refine k4 (fun hb => ?_) fun hb => ?_) <;> (try rw [List.length_map] at hb) <;> (try (exfalso; omega; done)) | fail)
    all_goals refine PSub.of_eq (congrArg (fun b => PV.val (.bool b)) ?_)
    all_goals (try simp only [List.length_map])
    all_goals first | exact (decide_eq_false (by unfold Pk.ok Diff; omega)).symm | exact decide_eq_decide.2 (by unfold Pk.ok Diff; omega)
  all_goals refine PSub.of_eq (congrArg (fun b => PV.val (.bool b)) ?_)
  all_goals first | exact (decide_eq_false (by unfold Pk.ok Diff; omega)).symm | exact decide_eq_decide.2 (by unfold Pk.ok Diff; omega)
theorem nok3 {n : Nt} {k : Nat} (hk : k < n.queue.length) (h : ¬ n.queue[k].ok) : n.check = 490 := Nt.check_bad fun h' => h (h'.2.1 _ (List.getElem_mem hk))
theorem rcheck_spec (n : Nt) (hq : n.queue.length ≤ 1000000) (ha : n.apart.length ≤ 1000000) : PSpec Try.prog 14 [encN n] (.val (.int .i64 n.check)) := by
  refine PSpec.of_vc (fun Γ => more7 false Γ.P Γ.fx) (fun Γ => more7_ok) Try.func14 rfl Try.call14 (by simp) ?_
  rintro ⟨P, N, w0, X, β0, fx, y, hy, pk, df⟩ rfl rfl rfl hoff rfl; change y.on = false at hoff
  repeat' ((try conv => whnf); first | (first | refine k3 (fun hb => ?_) fun hb => ?_ | refine k4 (fun hb => ?_) fun hb => ?_) <;> (try rw [List.length_map] at hb) <;> (try (exfalso; omega; done)) | fail)
  · exact PSub.of_eq (by rw [Nt.check_bad (fun h => by have := h.1; omega)])
  refine Wp.loop (fun k : Nat => ⟨[(1, .loc 1 0 0), (3, .int k)], [(1, some (.box [.pure (encQ n.queue), .pure (encA n.apart)]))], [1]⟩) (fun k => k ≤ n.queue.length ∧ ∀ j, (h : j < n.queue.length) → j < k → n.queue[j].ok) (fun k => n.queue.length - k) 0 (Le.of ?_ ?_ rfl rfl rfl) ⟨by omega, fun j _ h => by omega⟩ ?_
  · (repeat' (first | exact trivial | refine And.intro ?_ ?_ | exact Or.inl rfl | fail))
  · (repeat' (first | exact trivial | refine And.intro ?_ ?_ | refine Exists.intro _ (And.intro rfl ?_) | exact Or.inl rfl | fail))
  intro k ⟨hk, ho⟩
  by_cases hk2 : k < n.queue.length
  · have q := rpacket_spec n.queue[k]
    refine code_sound (more := more7 false _ _) more7_ok FOK.wide _ ?_
    repeat' ((try conv => whnf); first | (first | refine k3 (fun hb => ?_) fun hb => ?_ | refine k4 (fun hb => ?_) fun hb => ?_) <;> (try rw [List.length_map] at hb) <;> (try (exfalso; omega; done)) | refine s5 nm nm ?_ | fail)
    refine .inl ⟨_, q, ?_⟩
    repeat' ((try conv => whnf); first | (first | refine k3 (fun hb => ?_) fun hb => ?_ | refine k4 (fun hb => ?_) fun hb => ?_) <;> (try rw [List.length_map] at hb) <;> (try (exfalso; omega; done)) | refine s4 nm ?_ | fail)
    · refine ⟨k + 1, Le.of (by (repeat' (first | exact trivial | refine And.intro ?_ ?_ | exact Or.inl rfl | fail))) (by (repeat' (first | exact trivial | refine And.intro ?_ ?_ | refine Exists.intro _ (And.intro rfl ?_) | exact Or.inl rfl | fail))) rfl rfl rfl, ⟨by omega, fun j hj hjk => ?_⟩, by omega⟩
      by_cases e : j = k
      · subst e; assumption
      · exact ho j hj (by omega)
    · exact PSub.of_eq (by rw [nok3 hk2 (by assumption)])
  have hall : ∀ p ∈ n.queue, p.ok := fun p hp => by
    obtain ⟨i, hi, rfl⟩ := List.getElem_of_mem hp
    exact ho i hi (by omega)
  refine code_sound (more := more7 false _ _) more7_ok FOK.wide _ ?_
  repeat' ((try conv => whnf); first | (first | refine k3 (fun hb => ?_) fun hb => ?_ | refine k4 (fun hb => ?_) fun hb => ?_) <;> (try rw [List.length_map] at hb) <;> (try (exfalso; omega; done)) | fail)
  refine Wp.loop (fun k : Nat => ⟨[(1, .loc 1 0 0), (4, .int k)], [(1, some (.box [.pure (encQ n.queue), .pure (encA n.apart)]))], [1]⟩) (fun k => k ≤ n.apart.length ∧ ApOK n.apart k) (fun k => n.apart.length - k) 0 (Le.of ?_ ?_ rfl rfl rfl) ⟨by omega, ap_zero _⟩ ?_
  · (repeat' (first | exact trivial | refine And.intro ?_ ?_ | exact Or.inl rfl | fail))
  · (repeat' (first | exact trivial | refine And.intro ?_ ?_ | refine Exists.intro _ (And.intro rfl ?_) | exact Or.inl rfl | fail))
  intro k ⟨hk, hap⟩
  by_cases hk2 : k < n.apart.length
  · have q1 := site_spec n.apart[k].1
    have q2 := site_spec n.apart[k].2
    refine code_sound (more := more7 false _ _) more7_ok FOK.wide _ ?_
    repeat' ((try conv => whnf); first | (first | refine k3 (fun hb => ?_) fun hb => ?_ | refine k4 (fun hb => ?_) fun hb => ?_) <;> (try rw [List.length_map] at hb) <;> (try (exfalso; omega; done)) | refine And.intro rfl ?_ | refine s5 nm nm ?_ | refine And.intro bd ?_ | refine .inr ⟨rfl, rfl, rfl, ?_⟩ | refine ⟨_, singles_rfl _, ?_⟩ | refine ⟨_, _, rfl, rfl, ?_⟩ | refine .inl ⟨rfl, rfl, ?_⟩ | fail)
    refine .inl ⟨_, q1, ?_⟩
    repeat' ((try conv => whnf); first | (first | refine k3 (fun hb => ?_) fun hb => ?_ | refine k4 (fun hb => ?_) fun hb => ?_) <;> (try rw [List.length_map] at hb) <;> (try (exfalso; omega; done)) | refine And.intro rfl ?_ | refine And.intro bd ?_ | refine ⟨_, _, rfl, rfl, ?_⟩ | fail)
    · refine .inl ⟨_, q2, ?_⟩
      repeat' ((try conv => whnf); first | (first | refine k3 (fun hb => ?_) fun hb => ?_ | refine k4 (fun hb => ?_) fun hb => ?_) <;> (try rw [List.length_map] at hb) <;> (try (exfalso; omega; done)) | refine And.intro rfl ?_ | refine And.intro bd ?_ | refine ⟨_, _, rfl, rfl, ?_⟩ | fail)
      · exact PSub.of_eq (by rw [nok1 hk2 (by unfold PrOK; omega)])
      · refine Wp.draw (more := more7 true _ _) more7_det more7_ok FOK.wide rfl (by decide +kernel) (by conv => lhs; reduce) ?_
        repeat' ((try conv => whnf); first | (first | refine k3 (fun hb => ?_) fun hb => ?_ | refine k4 (fun hb => ?_) fun hb => ?_) <;> (try rw [List.length_map] at hb) <;> (try (exfalso; omega; done)) | refine And.intro rfl ?_ | refine s4 nm ?_ | refine s6 nm nm ?_ | refine And.intro bd ?_ | refine ⟨_, _, rfl, rfl, ?_⟩ | fail)
        all_goals first
          | exact PSub.of_eq (by rw [nok2 hk2 (show ((k : Int) - 1).toNat + 1 = k by omega) (fun h => by unfold ltP at h; omega)])
          | skip
        all_goals refine ⟨k + 1, Le.of (by (repeat' (first | exact trivial | refine And.intro ?_ ?_ | exact Or.inl rfl | fail))) (by (repeat' (first | exact trivial | refine And.intro ?_ ?_ | refine Exists.intro _ (And.intro rfl ?_) | exact Or.inl rfl | fail))) rfl rfl rfl, ⟨by omega, ap_succ hap hk2 (by unfold PrOK; omega) fun i hi => ?_⟩, by omega⟩
        all_goals first | (exfalso; omega) | skip
        all_goals subst hi
        all_goals
          have e : (((i + 1 : Nat) : Int) - 1).toNat = i := by omega
          simp only [e] at *
          unfold ltP
          omega
      · exact PSub.of_eq (by rw [nok1 hk2 (by unfold PrOK; omega)])
    · exact PSub.of_eq (by rw [nok1 hk2 (by unfold PrOK; omega)])
  · refine code_sound (more := more7 false _ _) more7_ok FOK.wide _ ?_
    repeat' ((try conv => whnf); first | (first | refine k3 (fun hb => ?_) fun hb => ?_ | refine k4 (fun hb => ?_) fun hb => ?_) <;> (try rw [List.length_map] at hb) <;> (try (exfalso; omega; done)) | fail)
    have e : k = n.apart.length := by omega
    subst e
    exact PSub.of_eq (by rw [Nt.check_ok ⟨by omega, hall, hap⟩])
theorem rsend_spec (n : Nt) (p : Pk) (hq : n.queue.length ≤ 100000) (ha : n.apart.length ≤ 1000000) : PSpec Try.prog 12 [encN n, .agg (encPk p)] (encNE (n.send p)) := by
  have qc := rcheck_spec n (by omega) ha
  have qv := rpacket_spec p
  obtain ⟨c, hc⟩ : ∃ c, c = n.check := ⟨_, rfl⟩
  obtain ⟨v, hv⟩ : ∃ v, v = decide p.ok := ⟨_, rfl⟩
  rw [← hc] at qc
  rw [← hv] at qv
  have no : c ≠ 0 ∨ v = false → n.send p = (zeroN, 490) := fun h => by
    unfold Nt.send
    rw [if_neg]
    rintro ⟨h1, h2⟩
    rcases h with h | h
    · exact h (hc.trans h1)
    · rw [hv, decide_eq_false_iff_not] at h; exact h h2
  have yes : c = 0 → v = true → n.send p = if (n.queue.length : Int) = 4096 then (zeroN, 2) else (⟨n.queue ++ [p], n.apart⟩, 0) := fun h1 h2 => by
    unfold Nt.send
    rw [if_pos ⟨hc ▸ h1, by rw [hv, decide_eq_true_eq] at h2; exact h2⟩]
  refine PSpec.of_vc (fun Γ => more7 false Γ.P Γ.fx) (fun Γ => more7_ok) Try.func12 rfl Try.call12 (by simp) ?_
  rintro ⟨P, N, w0, X, β0, fx, y, hy, pk, df⟩ rfl rfl rfl hoff rfl; change y.on = false at hoff
  skip
  refine .inl ⟨_, qc, ?_⟩
  repeat' ((try conv => whnf); first | (first | refine k3 (fun hb => ?_) fun hb => ?_ | refine k4 (fun hb => ?_) fun hb => ?_) <;> (try rw [List.length_map] at hb) <;> (try (exfalso; omega; done)) | refine And.intro rfl ?_ | fail)
  · refine .inl ⟨_, qv, ?_⟩
    repeat' ((try conv => whnf); first | (first | refine k3 (fun hb => ?_) fun hb => ?_ | refine k4 (fun hb => ?_) fun hb => ?_) <;> (try rw [List.length_map] at hb) <;> (try (exfalso; omega; done)) | refine k5 (fun hb => ?_) fun hb => ?_ | refine And.intro rfl ?_ | fail)
    · exact sub_n0 (by rw [yes (by assumption) (by assumption), if_pos (by omega)])
    · refine Wp.draw (more := more7 true _ _) more7_det more7_ok FOK.wide rfl (by decide +kernel) (by conv => lhs; reduce) ?_
      repeat' ((try conv => whnf); first | refine And.intro rfl ?_ | refine And.intro bd ?_ | fail)
      refine sub_ne (n := ⟨n.queue ++ [p], n.apart⟩) (by rw [yes (by assumption) (by assumption), if_neg (by omega)]) ?_ rfl
      rw [List.drop_zero, List.take_of_length_le (by simp), List.map_append]
      simp
      rfl
    · exact sub_n0 (no (.inr (by assumption)))
  · exact sub_n0 (no (.inl hb))
theorem asked_spec (n : Nt) (at_ : Int) (hq : n.queue.length ≤ 100000) (ha : n.apart.length ≤ 1000000) : PSpec Try.prog 43 [encN n, .int at_] (.int (n.chk at_)) := by
  have qc := rcheck_spec n (by omega) ha
  have e : n.chk at_ = if n.check = 0 then (if 0 ≤ at_ ∧ at_ < n.queue.length then 0 else 1) else n.check := rfl
  have ho := n.check_or
  obtain ⟨c, hc⟩ : ∃ c, c = n.check := ⟨_, rfl⟩
  rw [← hc] at qc e ho
  obtain ⟨r, hr⟩ : ∃ r, r = n.chk at_ := ⟨_, rfl⟩
  rw [← hr] at e ⊢
  refine PSpec.of_vc (fun Γ => more7 false Γ.P Γ.fx) (fun Γ => more7_ok) Try.func43 rfl Try.call43 (by simp) ?_
  rintro ⟨P, N, w0, X, β0, fx, y, hy, pk, df⟩ rfl rfl rfl hoff rfl; change y.on = false at hoff
  skip
  refine .inl ⟨_, qc, ?_⟩
  repeat' ((try conv => whnf); first | (first | refine k3 (fun hb => ?_) fun hb => ?_ | refine k4 (fun hb => ?_) fun hb => ?_) <;> (try rw [List.length_map] at hb) <;> (try (exfalso; omega; done)) | fail)
  all_goals (refine PSub.val_int ?_; (try simp only [List.length_map] at *); split at e <;> (try split at e) <;> omega)
/-- Is the link of two parties cut? -/
theorem iscut_spec (n : Nt) (a b : Int) (ha : n.apart.length ≤ 1000000) : PSpec Try.prog 41 [encN n, .int a, .int b] (.bool (n.cutOff a b)) := by
  have hmem : n.cutOff a b = decide (pairOf a b ∈ n.apart) := rfl
  obtain ⟨r, hr⟩ : ∃ r, r = n.cutOff a b := ⟨_, rfl⟩
  rw [← hr] at hmem ⊢
  refine PSpec.of_vc (fun Γ => more7 false Γ.P Γ.fx) (fun Γ => more7_ok) Try.func41 rfl Try.call41 (by simp) ?_
  rintro ⟨P, N, w0, X, β0, fx, y, hy, pk, df⟩ rfl rfl rfl hoff rfl; change y.on = false at hoff
  skip
  refine Wp.loop (fun k : Nat => ⟨[(1, .int a), (2, .int b), (3, .loc 3 0 0), (7, .int k)], [(3, some (.box [.pure (encQ n.queue), .pure (encA n.apart)]))], [3]⟩) (fun k => k ≤ n.apart.length ∧ ∀ j, (h : j < n.apart.length) → j < k → n.apart[j] ≠ pairOf a b) (fun k => n.apart.length - k) 0 (Le.of ?_ ?_ rfl rfl rfl) ⟨by omega, fun j _ h => by omega⟩ ?_
  · (repeat' (first | exact trivial | refine And.intro ?_ ?_ | exact Or.inl rfl | fail))
  · (repeat' (first | exact trivial | refine And.intro ?_ ?_ | refine Exists.intro _ (And.intro rfl ?_) | exact Or.inl rfl | fail))
  intro k ⟨hk, ho⟩
  by_cases hk2 : k < n.apart.length
  · by_cases hp : n.apart[k] = pairOf a b
    · have hm : r = true := by rw [hmem, decide_eq_true_eq, ← hp]; exact List.getElem_mem hk2
      have e1 : n.apart[k].1 = min a b := by rw [hp]; rfl
      have e2 : n.apart[k].2 = max a b := by rw [hp]; rfl
      subst hm
      refine code_sound (more := more7 false _ _) more7_ok FOK.wide _ ?_
      repeat' ((try conv => whnf); first | (first | refine k3 (fun hb => ?_) fun hb => ?_ | refine k4 (fun hb => ?_) fun hb => ?_) <;> (try rw [List.length_map] at hb) <;> (try (exfalso; omega; done)) | refine s5 nm nm ?_ | refine And.intro bd ?_ | fail)
      exact PSub.refl _
    · have hne : ¬ (n.apart[k].1 = min a b ∧ n.apart[k].2 = max a b) := fun h => hp (Prod.ext h.1 h.2)
      refine code_sound (more := more7 false _ _) more7_ok FOK.wide _ ?_
      repeat' ((try conv => whnf); first | (first | refine k3 (fun hb => ?_) fun hb => ?_ | refine k4 (fun hb => ?_) fun hb => ?_) <;> (try rw [List.length_map] at hb) <;> (try (exfalso; omega; done)) | refine s4 nm ?_ | refine s5 nm nm ?_ | refine And.intro bd ?_ | fail)
      all_goals (refine ⟨k + 1, Le.of (by (repeat' (first | exact trivial | refine And.intro ?_ ?_ | exact Or.inl rfl | fail))) (by (repeat' (first | exact trivial | refine And.intro ?_ ?_ | refine Exists.intro _ (And.intro rfl ?_) | exact Or.inl rfl | fail))) rfl rfl rfl, ⟨by omega, fun j hj hjk => ?_⟩, by omega⟩; by_cases e : j = k; (subst e; exact hp); exact ho j hj (by omega))
  · have hm : r = false := by
      rw [hmem, decide_eq_false_iff_not]
      intro h
      obtain ⟨i, hi, e⟩ := List.getElem_of_mem h
      exact ho i hi (by omega) e
    subst hm
    refine code_sound (more := more7 false _ _) more7_ok FOK.wide _ ?_
    repeat' ((try conv => whnf); first | (first | refine k3 (fun hb => ?_) fun hb => ?_ | refine k4 (fun hb => ?_) fun hb => ?_) <;> (try rw [List.length_map] at hb) <;> (try (exfalso; omega; done)) | fail)
    exact PSub.refl _
theorem without_spec (n : Nt) (k : Nat) (hk : k < n.queue.length) (hq : n.queue.length ≤ 100000) : PSpec Try.prog 44 [encN n, .int k] (encN ⟨n.queue.eraseIdx k, n.apart⟩) := by
  refine PSpec.of_vc (fun Γ => more7 false Γ.P Γ.fx) (fun Γ => more7_ok) Try.func44 rfl Try.call44 (by simp) ?_
  rintro ⟨P, N, w0, X, β0, fx, y, hy, pk, df⟩ rfl rfl rfl hoff rfl; change y.on = false at hoff
  skip
  refine Wp.draw (more := more7 true _ _) more7_det more7_ok FOK.wide rfl (by decide +kernel) (by conv => lhs; reduce) ?_
  repeat' ((try conv => whnf); first | refine And.intro rfl ?_ | refine s4 nm ?_ | refine And.intro bd ?_ | fail)
  refine PSub.agg ⟨sub_sl ?_, PSub.refl _, trivial⟩
  rw [erase_rows, List.drop_zero, List.take_of_length_le (by simp)]
  simp [cut]
  exact List.take_of_length_le (by simp)
theorem rlose_spec (n : Nt) (at_ : Int) (hq : n.queue.length ≤ 100000) (ha : n.apart.length ≤ 1000000) : PSpec Try.prog 24 [encN n, .int at_] (encNE (n.lose at_)) := by
  have qc := asked_spec n at_ hq ha
  obtain ⟨c, hc⟩ : ∃ c, c = n.chk at_ := ⟨_, rfl⟩
  have yes : c = 0 → n.lose at_ = (⟨n.queue.eraseIdx at_.toNat, n.apart⟩, 0) := fun h => by unfold Nt.lose; rw [if_pos (hc ▸ h)]
  have no : c ≠ 0 → n.lose at_ = (zeroN, c) := fun h => by unfold Nt.lose; rw [if_neg (hc ▸ h), hc]
  have rng : c = 0 → 0 ≤ at_ ∧ at_ < n.queue.length := fun h => chk_rng (hc ▸ h)
  rw [← hc] at qc
  by_cases h0 : c = 0
  · have hr := rng h0
    obtain ⟨k, rfl⟩ : ∃ k : Nat, at_ = k := ⟨at_.toNat, by omega⟩
    have qw := without_spec n k (by omega) hq
    obtain ⟨m, hm⟩ : ∃ m : Nt, m = ⟨n.queue.eraseIdx k, n.apart⟩ := ⟨_, rfl⟩
    rw [← hm] at qw
    have e : n.lose k = (m, 0) := by rw [yes h0, hm]; rfl
    rw [e]
    refine PSpec.of_vc (fun Γ => more7 false Γ.P Γ.fx) (fun Γ => more7_ok) Try.func24 rfl Try.call24 (by simp) ?_
    rintro ⟨P, N, w0, X, β0, fx, y, hy, pk, df⟩ rfl rfl rfl hoff rfl; change y.on = false at hoff
    skip
    refine .inl ⟨_, qc, ?_⟩
    repeat' ((try conv => whnf); first | (first | refine k3 (fun hb => ?_) fun hb => ?_ | refine k4 (fun hb => ?_) fun hb => ?_) <;> (try rw [List.length_map] at hb) <;> (try (exfalso; omega; done)) | fail)
    refine .inl ⟨_, qw, ?_⟩
    repeat' ((try conv => whnf); first | refine And.intro rfl ?_ | fail)
    exact PSub.refl _
  · refine PSpec.of_vc (fun Γ => more7 false Γ.P Γ.fx) (fun Γ => more7_ok) Try.func24 rfl Try.call24 (by simp) ?_
    rintro ⟨P, N, w0, X, β0, fx, y, hy, pk, df⟩ rfl rfl rfl hoff rfl; change y.on = false at hoff
    skip
    refine .inl ⟨_, qc, ?_⟩
    repeat' ((try conv => whnf); first | (first | refine k3 (fun hb => ?_) fun hb => ?_ | refine k4 (fun hb => ?_) fun hb => ?_) <;> (try rw [List.length_map] at hb) <;> (try (exfalso; omega; done)) | refine And.intro rfl ?_ | fail)
    exact sub_n0 (no h0)
theorem chk_check {n : Nt} {at_ : Int} (h : n.chk at_ = 0) : n.check = 0 := by
  by_cases h1 : n.check = 0
  · exact h1
  · unfold Nt.chk at h
    rw [if_neg h1] at h
    exact absurd h h1
theorem again_send {n : Nt} {k : Nat} (h : n.chk k = 0) (hk : k < n.queue.length) : n.again k = n.send n.queue[k] := by
  have h1 := chk_check h
  unfold Nt.again Nt.send
  have hs : n.check = 0 ∧ n.queue[k].ok := ⟨h1, (Nt.ok_of h1).2.1 _ (List.getElem_mem hk)⟩
  rw [if_pos h, if_pos (c := n.check = 0 ∧ n.queue[k].ok) hs]
  simp [List.getD, hk]
theorem ragain_spec (n : Nt) (at_ : Int) (hq : n.queue.length ≤ 100000) (ha : n.apart.length ≤ 1000000) : PSpec Try.prog 26 [encN n, .int at_] (encNE (n.again at_)) := by
  have qc := asked_spec n at_ hq ha
  obtain ⟨c, hc⟩ : ∃ c, c = n.chk at_ := ⟨_, rfl⟩
  have no : c ≠ 0 → n.again at_ = (zeroN, c) := fun h => by unfold Nt.again; rw [if_neg (hc ▸ h), hc]
  have rng : c = 0 → 0 ≤ at_ ∧ at_ < n.queue.length := fun h => chk_rng (hc ▸ h)
  rw [← hc] at qc
  by_cases h0 : c = 0
  · have hr := rng h0
    obtain ⟨k, rfl⟩ : ∃ k : Nat, at_ = k := ⟨at_.toNat, by omega⟩
    have hk : k < n.queue.length := by omega
    have qs := rsend_spec n n.queue[k] hq ha
    rw [again_send (hc ▸ h0) hk]
    obtain ⟨m, hm⟩ : ∃ m, m = n.send n.queue[k] := ⟨_, rfl⟩
    rw [← hm] at qs ⊢
    obtain ⟨m1, m2⟩ := m
    refine PSpec.of_vc (fun Γ => more7 false Γ.P Γ.fx) (fun Γ => more7_ok) Try.func26 rfl Try.call26 (by simp) ?_
    rintro ⟨P, N, w0, X, β0, fx, y, hy, pk, df⟩ rfl rfl rfl hoff rfl; change y.on = false at hoff
    skip
    refine .inl ⟨_, qc, ?_⟩
    repeat' ((try conv => whnf); first | (first | refine k3 (fun hb => ?_) fun hb => ?_ | refine k4 (fun hb => ?_) fun hb => ?_) <;> (try rw [List.length_map] at hb) <;> (try (exfalso; omega; done)) | fail)
    refine Wp.draw (more := more7 true _ _) more7_det more7_ok FOK.wide rfl (by decide +kernel) (by conv => lhs; reduce) ?_
    repeat' ((try conv => whnf); first | refine s5 nm nm ?_ | fail)
    refine ⟨_, qs, ?_⟩
    repeat' ((try conv => whnf); first | refine And.intro rfl ?_ | fail)
    exact PSub.refl _
  · refine PSpec.of_vc (fun Γ => more7 false Γ.P Γ.fx) (fun Γ => more7_ok) Try.func26 rfl Try.call26 (by simp) ?_
    rintro ⟨P, N, w0, X, β0, fx, y, hy, pk, df⟩ rfl rfl rfl hoff rfl; change y.on = false at hoff
    skip
    refine .inl ⟨_, qc, ?_⟩
    repeat' ((try conv => whnf); first | (first | refine k3 (fun hb => ?_) fun hb => ?_ | refine k4 (fun hb => ?_) fun hb => ?_) <;> (try rw [List.length_map] at hb) <;> (try (exfalso; omega; done)) | refine And.intro rfl ?_ | fail)
    exact sub_n0 (no h0)
theorem rdeliver_spec (n : Nt) (at_ : Int) (hq : n.queue.length ≤ 100000) (ha : n.apart.length ≤ 1000000) : PSpec Try.prog 21 [encN n, .int at_] (.tup [.agg (encPk (n.deliver at_).1), encN (n.deliver at_).2.1, .int (n.deliver at_).2.2]) := by
  have qc := asked_spec n at_ hq ha
  obtain ⟨c, hc⟩ : ∃ c, c = n.chk at_ := ⟨_, rfl⟩
  rw [← hc] at qc
  by_cases h0 : c = 0
  · have hr := chk_rng (hc ▸ h0)
    obtain ⟨k, rfl⟩ : ∃ k : Nat, at_ = k := ⟨at_.toNat, by omega⟩
    have hk : k < n.queue.length := by omega
    have eg : n.queue.getD k zeroPk = n.queue[k] := by simp [List.getD, hk]
    have ed : n.deliver k = ((if n.cutOff n.queue[k].src n.queue[k].dst then zeroPk else n.queue[k]), ⟨n.queue.eraseIdx k, n.apart⟩, 0) := by
      unfold Nt.deliver
      rw [if_pos (hc ▸ h0), Int.toNat_natCast, eg]
    rw [ed]
    have qn := iscut_spec n n.queue[k].src n.queue[k].dst ha
    obtain ⟨b, hb⟩ : ∃ b, b = n.cutOff n.queue[k].src n.queue[k].dst := ⟨_, rfl⟩
    rw [← hb] at qn ⊢
    have qw := without_spec n k (by omega) hq
    obtain ⟨m, hm⟩ : ∃ m : Nt, m = ⟨n.queue.eraseIdx k, n.apart⟩ := ⟨_, rfl⟩
    rw [← hm] at qw ⊢
    refine PSpec.of_vc (fun Γ => more7 false Γ.P Γ.fx) (fun Γ => more7_ok) Try.func21 rfl Try.call21 (by simp) ?_
    rintro ⟨P, N, w0, X, β0, fx, y, hy, pk, df⟩ rfl rfl rfl hoff rfl; change y.on = false at hoff
    skip
    refine .inl ⟨_, qc, ?_⟩
    repeat' ((try conv => whnf); first | (first | refine k3 (fun hb => ?_) fun hb => ?_ | refine k4 (fun hb => ?_) fun hb => ?_) <;> (try rw [List.length_map] at hb) <;> (try (exfalso; omega; done)) | refine And.intro rfl ?_ | refine s5 nm nm ?_ | fail)
    refine .inl ⟨_, qn, ?_⟩
    repeat' ((try conv => whnf); first | refine k6 (fun hb => ?_) fun hb => ?_ | refine And.intro rfl ?_ | fail)
    · refine Wp.draw (more := more7 true _ _) more7_det more7_ok FOK.wide rfl (by decide +kernel) (by conv => lhs; reduce) ?_
      skip
      refine ⟨_, qw, ?_⟩
      repeat' ((try conv => whnf); first | refine And.intro rfl ?_ | fail)
      rw [show b = true by assumption]
      exact PSub.tup ⟨PSub.agg ⟨PSub.refl _, PSub.refl _, PSub.nil 1, trivial⟩, PSub.refl _, PSub.refl _, trivial⟩
    · refine Wp.draw (more := more7 true _ _) more7_det more7_ok FOK.wide rfl (by decide +kernel) (by conv => lhs; reduce) ?_
      skip
      refine ⟨_, qw, ?_⟩
      repeat' ((try conv => whnf); first | refine And.intro rfl ?_ | fail)
      rw [show b = false by assumption]
      exact PSub.refl _
  · have ed : n.deliver at_ = (zeroPk, zeroN, c) := by unfold Nt.deliver; rw [if_neg (hc ▸ h0), hc]
    rw [ed]
    refine PSpec.of_vc (fun Γ => more7 false Γ.P Γ.fx) (fun Γ => more7_ok) Try.func21 rfl Try.call21 (by simp) ?_
    rintro ⟨P, N, w0, X, β0, fx, y, hy, pk, df⟩ rfl rfl rfl hoff rfl; change y.on = false at hoff
    skip
    refine .inl ⟨_, qc, ?_⟩
    repeat' ((try conv => whnf); first | (first | refine k3 (fun hb => ?_) fun hb => ?_ | refine k4 (fun hb => ?_) fun hb => ?_) <;> (try rw [List.length_map] at hb) <;> (try (exfalso; omega; done)) | refine And.intro rfl ?_ | fail)
    exact PSub.tup ⟨PSub.agg ⟨PSub.refl _, PSub.refl _, PSub.nil 1, trivial⟩, PSub.agg ⟨PSub.nil 3, PSub.nil 2, trivial⟩, PSub.refl _, trivial⟩
end Go.Proofs.Ytlploeedieenbaa
/- Networks: the reference's Cut; equality; few. Conditions: none. -/
namespace Go.Proofs.Ytlploeedieenbaa
open Go.Avc
open Classical in
noncomputable def sameN (a b : Nt) : Bool := decide (a = b)
def fewN (n : Nt) : Bool := decide ((n.queue.length : Int) ≤ 40) && decide ((n.apart.length : Int) ≤ 40)
set_option maxRecDepth 20000
set_option maxHeartbeats 4000000
set_option linter.unusedSimpArgs false
attribute [local irreducible] PSub Wp PSpec Le Need Both
theorem samePk_spec (p q : Pk) : PSpec Try.prog 22 [.agg (encPk p), .agg (encPk q)] (.bool (decide (p = q))) := by
  have he : p = q ↔ p.src = q.src ∧ p.dst = q.dst ∧ p.data = q.data := by cases p; cases q; simp
  obtain ⟨r, hr⟩ : ∃ r, r = decide (p = q) := ⟨_, rfl⟩
  rw [← hr]
  refine PSpec.of_vc (fun Γ => more7 false Γ.P Γ.fx) (fun Γ => more7_ok) Try.func22 rfl Try.call22 (by simp) ?_
  rintro ⟨P, N, w0, X, β0, fx, y, hy, pk, df⟩ rfl rfl rfl hoff rfl; change y.on = false at hoff
  repeat' ((try conv => whnf); first | (first | refine k3 (fun hb => ?_) fun hb => ?_ | refine k4 (fun hb => ?_) fun hb => ?_) <;> (try rw [List.length_map] at hb) <;> (try (exfalso; omega; done)) | refine s7 ?_ | fail)
  · exact PSub.val_bool (by rw [hr]; exact decide_eq_decide.2 (by rw [he]; simp [*]))
  · exact PSub.val_bool (by rw [hr]; exact (decide_eq_false (by rw [he]; simp [*])).symm)
  · exact PSub.val_bool (by rw [hr]; exact (decide_eq_false (by rw [he]; simp [*])).symm)
theorem few_spec (n : Nt) : PSpec Try.prog 10 [encN n] (.bool (fewN n)) := by
  refine PSpec.bd Try.call10 fun hbd => ?_
  have hb1 : n.queue.length ≤ 9223372036854775807 ∧ n.apart.length ≤ 9223372036854775807 := by
    have := hbd.1
    simp only [encN, encQ, encA, PV.bd, bdL, List.length_map] at this
    exact ⟨this.1.1, this.2.1.1⟩
  refine PSpec.of_vc (fun Γ => more7 false Γ.P Γ.fx) (fun Γ => more7_ok) Try.func10 rfl Try.call10 (by simp) ?_
  rintro ⟨P, N, w0, X, β0, fx, y, hy, pk, df⟩ rfl rfl rfl hoff rfl; change y.on = false at hoff
  repeat' ((try conv => whnf); first | (first | refine k3 (fun hb => ?_) fun hb => ?_ | refine k4 (fun hb => ?_) fun hb => ?_) <;> (try rw [List.length_map] at hb) <;> (try (exfalso; omega; done)) | fail)
  all_goals refine PSub.val_bool ?_
  all_goals (unfold fewN; simp [*])
theorem few_of {n : Nt} (h : fewN n = true) : n.queue.length ≤ 40 ∧ n.apart.length ≤ 40 := by
  simp only [fewN, Bool.and_eq_true, decide_eq_true_eq] at h
  omega
theorem sameN_true {a b : Nt} (h : a = b) : sameN a b = true := by unfold sameN; simp [h]
theorem sameN_false {a b : Nt} (h : a ≠ b) : sameN a b = false := by unfold sameN; simp [h]
theorem Nt.ext' {a b : Nt} (h1 : a.queue = b.queue) (h2 : a.apart = b.apart) : a = b := by cases a; cases b; simp_all
theorem same_spec (a b : Nt) (h1 : a.queue.length ≤ 1000000) (h2 : a.apart.length ≤ 1000000) (h3 : b.queue.length ≤ 1000000) (h4 : b.apart.length ≤ 1000000) : PSpec Try.prog 15 [encN a, encN b] (.bool (sameN a b)) := by
  refine PSpec.of_vc (fun Γ => more7 false Γ.P Γ.fx) (fun Γ => more7_ok) Try.func15 rfl Try.call15 (by simp) ?_
  rintro ⟨P, N, w0, X, β0, fx, y, hy, pk, df⟩ rfl rfl rfl hoff rfl; change y.on = false at hoff
  repeat' ((try conv => whnf); first | (first | refine k3 (fun hb => ?_) fun hb => ?_ | refine k4 (fun hb => ?_) fun hb => ?_) <;> (try rw [List.length_map] at hb) <;> (try (exfalso; omega; done)) | fail)
  rotate_left
  · simp only [List.length_map] at *
    exact PSub.val_bool (sameN_false (fun e => by subst e; omega)).symm
  · simp only [List.length_map] at *
    exact PSub.val_bool (sameN_false (fun e => by subst e; omega)).symm
  simp only [List.length_map] at *
  refine Wp.loop (fun k : Nat => ⟨[(2, .loc 2 0 0), (3, .loc 3 0 0), (5, .int k)], [(2, some (.box [.pure (encQ a.queue), .pure (encA a.apart)])), (3, some (.box [.pure (encQ b.queue), .pure (encA b.apart)]))], [2, 3]⟩) (fun k => k ≤ a.queue.length ∧ ∀ j, (h : j < a.queue.length) → (h' : j < b.queue.length) → j < k → a.queue[j] = b.queue[j]) (fun k => a.queue.length - k) 0 (Le.of ?_ ?_ rfl rfl rfl) ⟨by omega, fun j _ _ h => by omega⟩ ?_
  · (repeat' (first | exact trivial | refine And.intro ?_ ?_ | exact Or.inl rfl | fail))
  · (repeat' (first | exact trivial | refine And.intro ?_ ?_ | refine Exists.intro _ (And.intro rfl ?_) | exact Or.inl rfl | fail))
  intro k ⟨hk, ho⟩
  by_cases hk2 : k < a.queue.length
  · have hkb : k < b.queue.length := by omega
    have q := samePk_spec a.queue[k] b.queue[k]
    refine code_sound (more := more7 false _ _) more7_ok FOK.wide _ ?_
    repeat' ((try conv => whnf); first | (first | refine k3 (fun hb => ?_) fun hb => ?_ | refine k4 (fun hb => ?_) fun hb => ?_) <;> (try rw [List.length_map] at hb) <;> (try (exfalso; omega; done)) | fail)
    refine Wp.draw (more := more7 true _ _) more7_det more7_ok FOK.wide rfl (by decide +kernel) (by conv => lhs; reduce) ?_
    repeat' ((try conv => whnf); first | refine s5 nm nm ?_ | fail)
    refine ⟨_, q, ?_⟩
    repeat' ((try conv => whnf); first | (first | refine k3 (fun hb => ?_) fun hb => ?_ | refine k4 (fun hb => ?_) fun hb => ?_) <;> (try rw [List.length_map] at hb) <;> (try (exfalso; omega; done)) | refine s4 nm ?_ | fail)
    · refine ⟨k + 1, Le.of (by (repeat' (first | exact trivial | refine And.intro ?_ ?_ | exact Or.inl rfl | fail))) (by (repeat' (first | exact trivial | refine And.intro ?_ ?_ | refine Exists.intro _ (And.intro rfl ?_) | exact Or.inl rfl | fail))) rfl rfl rfl, ⟨by omega, fun j hj hj' hjk => ?_⟩, by omega⟩
      by_cases e : j = k
      · subst e; assumption
      · exact ho j hj hj' (by omega)
    · rename_i hne
      exact PSub.val_bool (sameN_false (fun e => by subst e; first | exact hne rfl | exact absurd rfl (by assumption))).symm
  have hqe : a.queue = b.queue := List.ext_getElem (by omega) fun i h1 h2 => ho i h1 h2 (by omega)
  refine code_sound (more := more7 false _ _) more7_ok FOK.wide _ ?_
  repeat' ((try conv => whnf); first | (first | refine k3 (fun hb => ?_) fun hb => ?_ | refine k4 (fun hb => ?_) fun hb => ?_) <;> (try rw [List.length_map] at hb) <;> (try (exfalso; omega; done)) | fail)
  refine Wp.loop (fun k : Nat => ⟨[(2, .loc 2 0 0), (3, .loc 3 0 0), (6, .int k)], [(2, some (.box [.pure (encQ a.queue), .pure (encA a.apart)])), (3, some (.box [.pure (encQ b.queue), .pure (encA b.apart)]))], [2, 3]⟩) (fun k => k ≤ a.apart.length ∧ ∀ j, (h : j < a.apart.length) → (h' : j < b.apart.length) → j < k → a.apart[j] = b.apart[j]) (fun k => a.apart.length - k) 0 (Le.of ?_ ?_ rfl rfl rfl) ⟨by omega, fun j _ _ h => by omega⟩ ?_
  · (repeat' (first | exact trivial | refine And.intro ?_ ?_ | exact Or.inl rfl | fail))
  · (repeat' (first | exact trivial | refine And.intro ?_ ?_ | refine Exists.intro _ (And.intro rfl ?_) | exact Or.inl rfl | fail))
  intro m ⟨hm, hp⟩
  by_cases hm2 : m < a.apart.length
  · have hmb : m < b.apart.length := by omega
    have q := prEq a.apart[m] b.apart[m]
    by_cases hpe : a.apart[m] = b.apart[m]
    · rw [decide_eq_true hpe] at q
      refine code_sound (more := more7 false _ _) more7_ok FOK.wide _ ?_
      repeat' ((try conv => whnf); first | (first | refine k3 (fun hb => ?_) fun hb => ?_ | refine k4 (fun hb => ?_) fun hb => ?_) <;> (try rw [List.length_map] at hb) <;> (try (exfalso; omega; done)) | fail)
      refine Wp.draw (more := more7 true _ _) more7_det more7_ok FOK.wide rfl (by decide +kernel) (by conv => lhs; reduce) ?_
      repeat' ((try conv => whnf); first | refine s5 nm nm ?_ | refine .inl ⟨rfl, rfl, ?_⟩ | fail)
      refine ⟨_, q, isAp, isAp, ?_⟩
      repeat' ((try conv => whnf); first | refine s4 nm ?_ | fail)
      refine ⟨m + 1, Le.of (by (repeat' (first | exact trivial | refine And.intro ?_ ?_ | exact Or.inl rfl | fail))) (by (repeat' (first | exact trivial | refine And.intro ?_ ?_ | refine Exists.intro _ (And.intro rfl ?_) | exact Or.inl rfl | fail))) rfl rfl rfl, ⟨by omega, fun j hj hj' hjk => ?_⟩, by omega⟩
      by_cases e : j = m
      · subst e; exact hpe
      · exact hp j hj hj' (by omega)
    · rw [decide_eq_false hpe] at q
      refine code_sound (more := more7 false _ _) more7_ok FOK.wide _ ?_
      repeat' ((try conv => whnf); first | (first | refine k3 (fun hb => ?_) fun hb => ?_ | refine k4 (fun hb => ?_) fun hb => ?_) <;> (try rw [List.length_map] at hb) <;> (try (exfalso; omega; done)) | fail)
      refine Wp.draw (more := more7 true _ _) more7_det more7_ok FOK.wide rfl (by decide +kernel) (by conv => lhs; reduce) ?_
      repeat' ((try conv => whnf); first | refine s5 nm nm ?_ | refine .inl ⟨rfl, rfl, ?_⟩ | fail)
      refine ⟨_, q, isAp, isAp, ?_⟩
      skip
      exact PSub.val_bool (sameN_false (fun e => hpe (by subst e; rfl))).symm
  · have hae : a.apart = b.apart := List.ext_getElem (by omega) fun i h1 h2 => hp i h1 h2 (by omega)
    refine code_sound (more := more7 false _ _) more7_ok FOK.wide _ ?_
    repeat' ((try conv => whnf); first | (first | refine k3 (fun hb => ?_) fun hb => ?_ | refine k4 (fun hb => ?_) fun hb => ?_) <;> (try rw [List.length_map] at hb) <;> (try (exfalso; omega; done)) | fail)
    exact PSub.val_bool (sameN_true (Nt.ext' hqe hae)).symm
end Go.Proofs.Ytlploeedieenbaa
/- Networks: the reference's Cut. Conditions: none. -/
namespace Go.Proofs.Ytlploeedieenbaa
open Go.Avc
def cutF (l : List (Int × Int)) (p : Int × Int) (on : Bool) (q : Int × Int) : Bool := if q = p then on else decide (q ∈ l)
theorem cutL_prs (l : List (Int × Int)) (p : Int × Int) (on : Bool) : cutL l p on = (prs 16 17).filter (cutF l p on) := rfl
theorem prs_len (x y : Nat) : (prs x y).length ≤ 16 * x + y := by
  unfold prs
  rw [List.length_append]
  have h1 : ∀ x : Nat, ((List.range x).flatMap fun a : Nat => ((List.range 16).filter fun b : Nat => decide (a < b)).map fun b : Nat => ((a : Int), (b : Int))).length ≤ 16 * x := by
    intro x
    induction x with
    | zero => simp
    | succ x ih =>
      rw [show List.range (x + 1) = List.range x ++ [x] from List.range_succ, List.flatMap_append, List.length_append]
      have : (((List.range 16).filter fun b : Nat => decide (x < b)).map fun b : Nat => ((x : Int), (b : Int))).length ≤ 16 := by
        rw [List.length_map]; exact Nat.le_trans (List.length_filter_le _ _) (by simp)
      simp only [List.flatMap_cons, List.flatMap_nil, List.append_nil]
      omega
  have h2 : (((List.range y).filter fun b : Nat => decide (x < b)).map fun b : Nat => ((x : Int), (b : Int))).length ≤ y := by
    rw [List.length_map]; exact Nat.le_trans (List.length_filter_le _ _) (by simp)
  have := h1 x
  omega
set_option maxRecDepth 20000
set_option maxHeartbeats 4000000
set_option linter.unusedSimpArgs false
attribute [local irreducible] PSub Wp PSpec Le Need Both
attribute [local irreducible] prs cutF
theorem rcut_spec (n : Nt) (a b : Int) (on : Bool) (hq : n.queue.length ≤ 100000) (hl : n.apart.length ≤ 1000000) : PSpec Try.prog 19 [encN n, .int a, .int b, .bool on] (encNE (n.cut a b on)) := by
  have qc := rcheck_spec n (by omega) hl
  have qa := site_spec a
  have qb := site_spec b
  have ho := n.check_or
  have e : n.cut a b on = if n.check = 0 then (if Diff a b then (⟨n.queue, cutL n.apart (pairOf a b) on⟩, 0) else (zeroN, 1)) else (zeroN, n.check) := rfl
  obtain ⟨c, hc⟩ : ∃ c, c = n.check := ⟨_, rfl⟩
  rw [← hc] at qc e ho
  by_cases hd : Diff a b
  case neg =>
    rw [if_neg hd] at e
    refine PSpec.of_vc (fun Γ => more7 false Γ.P Γ.fx) (fun Γ => more7_ok) Try.func19 rfl Try.call19 (by simp) ?_
    rintro ⟨P, N, w0, X, β0, fx, y, hy, pk, df⟩ rfl rfl rfl hoff rfl; change y.on = false at hoff
    skip
    refine .inl ⟨_, qc, ?_⟩
    repeat' ((try conv => whnf); first | (first | refine k3 (fun hb => ?_) fun hb => ?_ | refine k4 (fun hb => ?_) fun hb => ?_) <;> (try rw [List.length_map] at hb) <;> (try (exfalso; omega; done)) | refine And.intro rfl ?_ | fail)
    · refine .inl ⟨_, qa, ?_⟩
      repeat' ((try conv => whnf); first | (first | refine k3 (fun hb => ?_) fun hb => ?_ | refine k4 (fun hb => ?_) fun hb => ?_) <;> (try rw [List.length_map] at hb) <;> (try (exfalso; omega; done)) | refine And.intro rfl ?_ | fail)
      · refine .inl ⟨_, qb, ?_⟩
        repeat' ((try conv => whnf); first | (first | refine k3 (fun hb => ?_) fun hb => ?_ | refine k4 (fun hb => ?_) fun hb => ?_) <;> (try rw [List.length_map] at hb) <;> (try (exfalso; omega; done)) | refine And.intro rfl ?_ | fail)
        all_goals first
          | exact sub_n0 (by rw [e, if_pos (by assumption)])
          | (exfalso; unfold Diff at hd; omega)
      all_goals exact sub_n0 (by rw [e, if_pos (by assumption)])
    all_goals exact sub_n0 (by rw [e, if_neg (by assumption), show c = 490 by omega])
  have hd' := hd
  unfold Diff at hd'
  rw [if_pos hd] at e
  by_cases h0 : c = 0
  case neg =>
    refine PSpec.of_vc (fun Γ => more7 false Γ.P Γ.fx) (fun Γ => more7_ok) Try.func19 rfl Try.call19 (by simp) ?_
    rintro ⟨P, N, w0, X, β0, fx, y, hy, pk, df⟩ rfl rfl rfl hoff rfl; change y.on = false at hoff
    skip
    refine .inl ⟨_, qc, ?_⟩
    repeat' ((try conv => whnf); first | (first | refine k3 (fun hb => ?_) fun hb => ?_ | refine k4 (fun hb => ?_) fun hb => ?_) <;> (try rw [List.length_map] at hb) <;> (try (exfalso; omega; done)) | refine And.intro rfl ?_ | fail)
    all_goals exact sub_n0 (by rw [e, if_neg (by assumption), show c = 490 by omega])
  rw [if_pos h0, cutL_prs] at e
  refine PSpec.of_vc (fun Γ => more7 false Γ.P Γ.fx) (fun Γ => more7_ok) Try.func19 rfl Try.call19 (by simp) ?_
  rintro ⟨P, N, w0, X, β0, fx, y, hy, pk, df⟩ rfl rfl rfl hoff rfl; change y.on = false at hoff
  skip
  refine .inl ⟨_, qc, ?_⟩
  repeat' ((try conv => whnf); first | (first | refine k3 (fun hb => ?_) fun hb => ?_ | refine k4 (fun hb => ?_) fun hb => ?_) <;> (try rw [List.length_map] at hb) <;> (try (exfalso; omega; done)) | fail)
  refine .inl ⟨_, qa, ?_⟩
  repeat' ((try conv => whnf); first | (first | refine k3 (fun hb => ?_) fun hb => ?_ | refine k4 (fun hb => ?_) fun hb => ?_) <;> (try rw [List.length_map] at hb) <;> (try (exfalso; omega; done)) | fail)
  refine .inl ⟨_, qb, ?_⟩
  repeat' ((try conv => whnf); first | (first | refine k3 (fun hb => ?_) fun hb => ?_ | refine k4 (fun hb => ?_) fun hb => ?_) <;> (try rw [List.length_map] at hb) <;> (try (exfalso; omega; done)) | fail)
  refine Wp.loop (fun x : Nat => ⟨[(1, .int a), (2, .int b), (3, .bool on), (4, .loc 4 0 0), (8, .loc 8 0 0), (10, .lsl 300 0 ((prs x (x + 1)).filter (cutF n.apart (pairOf a b) on)).length), (11, .int x)],
      [(4, some (.box [.pure (encQ n.queue), .pure (encA n.apart)])), (8, some (.box [.pure (.val (.slice none 0 0)), .pure (.val (.slice none 0 0))])), (300, some (.row 2 (((prs x (x + 1)).filter (cutF n.apart (pairOf a b) on)).map encP2)))], [4, 8, 300]⟩)
    (fun x => x ≤ 16) (fun x => 16 - x) 0 (Le.trans (Le.virt (k := 300) (sz := 2) rfl rfl (by omega)) (Le.of ?_ ?_ rfl rfl rfl)) (by omega) ?_
  · rw [show prs 0 (0 + 1) = [] by unfold prs; rfl]
    (repeat' (first | exact trivial | refine And.intro ?_ ?_ | exact Or.inl rfl | exact l6 rfl | fail))
  · rw [show prs 0 (0 + 1) = [] by unfold prs; rfl]
    (repeat' (first | exact trivial | exact rfl | refine And.intro ?_ ?_ | refine Exists.intro _ (And.intro rfl ?_) | exact Or.inl rfl | fail))
  intro x hx
  by_cases hx2 : x < 16
  · refine code_sound (more := more7 false _ _) more7_ok FOK.wide _ ?_
    repeat' ((try conv => whnf); first | (first | refine k3 (fun hb => ?_) fun hb => ?_ | refine k4 (fun hb => ?_) fun hb => ?_) <;> (try rw [List.length_map] at hb) <;> (try (exfalso; omega; done)) | refine s4 nm ?_ | fail)
    refine Wp.loop (fun y : Nat => ⟨[(1, .int a), (2, .int b), (3, .bool on), (4, .loc 4 0 0), (8, .loc 8 0 0), (10, .lsl 300 0 ((prs x y).filter (cutF n.apart (pairOf a b) on)).length), (11, .int x), (12, .int y)],
        [(4, some (.box [.pure (encQ n.queue), .pure (encA n.apart)])), (8, some (.box [.pure (.val (.slice none 0 0)), .pure (.val (.slice none 0 0))])), (300, some (.row 2 (((prs x y).filter (cutF n.apart (pairOf a b) on)).map encP2)))], [4, 8, 300]⟩)
      (fun y => x < y ∧ y ≤ 16) (fun y => 16 - y) (x + 1) (Le.of ?_ ?_ rfl rfl rfl) (by omega) ?_
    · (repeat' (first | exact trivial | refine And.intro ?_ ?_ | exact Or.inl rfl | fail))
    · (repeat' (first | exact trivial | exact rfl | refine And.intro ?_ ?_ | refine Exists.intro _ (And.intro rfl ?_) | exact Or.inl rfl | fail))
    intro y ⟨hxy, hy⟩
    by_cases hy2 : y < 16
    · have hp := prs_next hxy
      have hlen : ((prs x y).filter (cutF n.apart (pairOf a b) on)).length ≤ 300 := Nat.le_trans (List.length_filter_le _ _) (Nat.le_trans (prs_len x y) (by omega))
      have hft : cutF n.apart (pairOf a b) on ((x : Int), (y : Int)) = true → (prs x (y + 1)).filter (cutF n.apart (pairOf a b) on) = (prs x y).filter (cutF n.apart (pairOf a b) on) ++ [((x : Int), (y : Int))] := fun h => by rw [hp, List.filter_append]; simp [h]
      have hff : cutF n.apart (pairOf a b) on ((x : Int), (y : Int)) = false → (prs x (y + 1)).filter (cutF n.apart (pairOf a b) on) = (prs x y).filter (cutF n.apart (pairOf a b) on) := fun h => by rw [hp, List.filter_append]; simp [h]
      have qi := iscut_spec n x y hl
      have ec : n.cutOff x y = decide (((x : Int), (y : Int)) ∈ n.apart) := by unfold Nt.cutOff pairOf; rw [show min (x : Int) y = x by omega, show max (x : Int) y = y by omega]
      rw [ec] at qi
      by_cases hpe : ((x : Int), (y : Int)) = pairOf a b
      · have hf : cutF n.apart (pairOf a b) on ((x : Int), (y : Int)) = on := by unfold cutF; rw [if_pos hpe]
        have e1 : (x : Int) = min a b := by have := congrArg Prod.fst hpe; exact this
        have e2 : (y : Int) = max a b := by have := congrArg Prod.snd hpe; exact this
        obtain ⟨m, hm⟩ : ∃ m, m = decide (((x : Int), (y : Int)) ∈ n.apart) := ⟨_, rfl⟩
        rw [← hm] at qi
        refine code_sound (more := more7 false _ _) more7_ok FOK.wide _ ?_
        repeat' ((try conv => whnf); first | (first | refine k3 (fun hb => ?_) fun hb => ?_ | refine k4 (fun hb => ?_) fun hb => ?_) <;> (try rw [List.length_map] at hb) <;> (try (exfalso; omega; done)) | fail)
        refine .inl ⟨_, qi, ?_⟩
        repeat' ((try conv => whnf); first | (first | refine k3 (fun hb => ?_) fun hb => ?_ | refine k4 (fun hb => ?_) fun hb => ?_) <;> (try rw [List.length_map] at hb) <;> (try (exfalso; omega; done)) | refine k6 (fun hb => ?_) fun hb => ?_ | refine s4 nm ?_ | refine And.intro bd ?_ | fail)
        · refine ⟨y + 1, Le.map [(300, 65)] ?_ ?_ rfl rfl rfl rfl, by omega, by omega⟩
          · rw [hft (by rw [hf]; assumption)]
            (repeat' (first | exact trivial | refine And.intro ?_ ?_ | exact Or.inl rfl | exact SubA.lsl ls | fail))
            all_goals (refine SubA.lsl ?_; simp)
          · rw [hft (by rw [hf]; assumption)]
            (repeat' (first | exact trivial | refine And.intro ?_ ?_ | refine Exists.intro _ (And.intro rfl ?_) | exact Or.inl rfl | fail))
            all_goals (refine rowEq ?_; simp; rfl)
        · refine ⟨y + 1, Le.of ?_ ?_ rfl rfl rfl, by omega, by omega⟩
          · rw [hff (by rw [hf]; assumption)]
            (repeat' (first | exact trivial | refine And.intro ?_ ?_ | exact Or.inl rfl | fail))
          · rw [hff (by rw [hf]; assumption)]
            (repeat' (first | exact trivial | exact rfl | refine And.intro ?_ ?_ | refine Exists.intro _ (And.intro rfl ?_) | exact Or.inl rfl | fail))
      · have hne : ¬ ((x : Int) = min a b ∧ (y : Int) = max a b) := fun h => hpe (Prod.ext h.1 h.2)
        have hf : cutF n.apart (pairOf a b) on ((x : Int), (y : Int)) = decide (((x : Int), (y : Int)) ∈ n.apart) := by unfold cutF; rw [if_neg hpe]
        obtain ⟨m, hm⟩ : ∃ m, m = decide (((x : Int), (y : Int)) ∈ n.apart) := ⟨_, rfl⟩
        rw [← hm] at qi hf
        refine code_sound (more := more7 false _ _) more7_ok FOK.wide _ ?_
        repeat' ((try conv => whnf); first | (first | refine k3 (fun hb => ?_) fun hb => ?_ | refine k4 (fun hb => ?_) fun hb => ?_) <;> (try rw [List.length_map] at hb) <;> (try (exfalso; omega; done)) | fail)
        refine .inl ⟨_, qi, ?_⟩
        repeat' ((try conv => whnf); first | (first | refine k3 (fun hb => ?_) fun hb => ?_ | refine k4 (fun hb => ?_) fun hb => ?_) <;> (try rw [List.length_map] at hb) <;> (try (exfalso; omega; done)) | refine k6 (fun hb => ?_) fun hb => ?_ | refine s4 nm ?_ | refine And.intro bd ?_ | fail)
        · refine ⟨y + 1, Le.map [(300, 65)] ?_ ?_ rfl rfl rfl rfl, by omega, by omega⟩
          · rw [hft (by rw [hf]; assumption)]
            (repeat' (first | exact trivial | refine And.intro ?_ ?_ | exact Or.inl rfl | exact SubA.lsl ls | fail))
            all_goals (refine SubA.lsl ?_; simp)
          · rw [hft (by rw [hf]; assumption)]
            (repeat' (first | exact trivial | refine And.intro ?_ ?_ | refine Exists.intro _ (And.intro rfl ?_) | exact Or.inl rfl | fail))
            all_goals (refine rowEq ?_; simp; rfl)
        · refine ⟨y + 1, Le.of ?_ ?_ rfl rfl rfl, by omega, by omega⟩
          · rw [hff (by rw [hf]; assumption)]
            (repeat' (first | exact trivial | refine And.intro ?_ ?_ | exact Or.inl rfl | fail))
          · rw [hff (by rw [hf]; assumption)]
            (repeat' (first | exact trivial | exact rfl | refine And.intro ?_ ?_ | refine Exists.intro _ (And.intro rfl ?_) | exact Or.inl rfl | fail))
        · refine ⟨y + 1, Le.map [(300, 65)] ?_ ?_ rfl rfl rfl rfl, by omega, by omega⟩
          · rw [hft (by rw [hf]; assumption)]
            (repeat' (first | exact trivial | refine And.intro ?_ ?_ | exact Or.inl rfl | exact SubA.lsl ls | fail))
            all_goals (refine SubA.lsl ?_; simp)
          · rw [hft (by rw [hf]; assumption)]
            (repeat' (first | exact trivial | refine And.intro ?_ ?_ | refine Exists.intro _ (And.intro rfl ?_) | exact Or.inl rfl | fail))
            all_goals (refine rowEq ?_; simp; rfl)
        · refine ⟨y + 1, Le.of ?_ ?_ rfl rfl rfl, by omega, by omega⟩
          · rw [hff (by rw [hf]; assumption)]
            (repeat' (first | exact trivial | refine And.intro ?_ ?_ | exact Or.inl rfl | fail))
          · rw [hff (by rw [hf]; assumption)]
            (repeat' (first | exact trivial | exact rfl | refine And.intro ?_ ?_ | refine Exists.intro _ (And.intro rfl ?_) | exact Or.inl rfl | fail))
    · have ey : y = 16 := by omega
      subst ey
      have hov := prs_over x
      refine code_sound (more := more7 false _ _) more7_ok FOK.wide _ ?_
      repeat' ((try conv => whnf); first | refine s4 nm ?_ | fail)
      refine ⟨x + 1, Le.of ?_ ?_ rfl rfl rfl, by omega, by omega⟩
      · rw [← hov]
        (repeat' (first | exact trivial | refine And.intro ?_ ?_ | exact Or.inl rfl | fail))
      · rw [← hov]
        (repeat' (first | exact trivial | exact rfl | refine And.intro ?_ ?_ | refine Exists.intro _ (And.intro rfl ?_) | exact Or.inl rfl | fail))
  · have ex : x = 16 := by omega
    subst ex
    refine code_sound (more := more7 false _ _) more7_ok FOK.wide _ ?_
    repeat' ((try conv => whnf); first | refine And.intro rfl ?_ | fail)
    refine sub_ne (n := ⟨n.queue, (prs 16 17).filter (cutF n.apart (pairOf a b) on)⟩) e rfl ?_
    rw [List.drop_zero, List.take_of_length_le (by simp)]
    rfl
end Go.Proofs.Ytlploeedieenbaa
