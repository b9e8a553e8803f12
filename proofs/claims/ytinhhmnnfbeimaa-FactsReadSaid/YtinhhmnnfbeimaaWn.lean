/- Facts: the law FactsRead. Conditions: none. -/
import Derived.Test.YtinhhmnnfbeimaaWd
import Derived.Test.YtinhhmnnfbeimaaWl
set_option linter.unusedSimpArgs false
set_option linter.unusedVariables false
namespace Go.Proofs.Ytinhhmnnfbeimaa
open Go.Avc
/-- Among the first i changes, and the first m spans of the next one, there is one about the read's key, on its days. -/
def hitAt (C : List Df) (r : Rd) (i m : Nat) : Prop := (∃ j, ∃ h : j < C.length, j < i ∧ C[j].1 = r.key ∧ ∃ p ∈ C[j].2, hitS r p) ∨ ∃ h : i < C.length, C[i].1 = r.key ∧ ∃ n, ∃ hn : n < C[i].2.length, n < m ∧ hitS r C[i].2[n]
theorem hitAt_zero (C : List Df) (r : Rd) : ¬ hitAt C r 0 0 := by
  rintro (⟨j, _, h, _⟩ | ⟨_, _, n, _, h, _⟩) <;> omega
theorem hitAt_next {C : List Df} {r : Rd} {i : Nat} (h : i < C.length) : hitAt C r (i + 1) 0 ↔ hitAt C r i C[i].2.length := by
  constructor
  · rintro (⟨j, hj, hji, h1, p, h2, h3⟩ | ⟨_, _, n, _, hn, _⟩)
    · by_cases e : j = i
      · subst e
        obtain ⟨n, hn, rfl⟩ := List.getElem_of_mem h2
        exact .inr ⟨hj, h1, n, hn, hn, h3⟩
      · exact .inl ⟨j, hj, by omega, h1, p, h2, h3⟩
    · omega
  · rintro (⟨j, hj, hji, h1, h2⟩ | ⟨hi, h1, n, hn, _, h3⟩)
    · exact .inl ⟨j, hj, by omega, h1, h2⟩
    · exact .inl ⟨i, hi, by omega, h1, _, List.getElem_mem hn, h3⟩
theorem hitAt_step {C : List Df} {r : Rd} {i m : Nat} (h : i < C.length) (hm : m < C[i].2.length) : hitAt C r i (m + 1) ↔ hitAt C r i m ∨ (C[i].1 = r.key ∧ hitS r C[i].2[m]) := by
  constructor
  · rintro (h1 | ⟨hi, h1, n, hn, hnm, h3⟩)
    · exact .inl (.inl h1)
    · by_cases e : n = m
      · subst e; exact .inr ⟨h1, h3⟩
      · exact .inl (.inr ⟨hi, h1, n, hn, by omega, h3⟩)
  · rintro ((h1 | ⟨hi, h1, n, hn, hnm, h3⟩) | ⟨h1, h2⟩)
    · exact .inl h1
    · exact .inr ⟨hi, h1, n, hn, by omega, h3⟩
    · exact .inr ⟨h, h1, m, hm, by omega, h2⟩
attribute [local irreducible] ddF
theorem hitAt_all (l : List Fa) (r : Rd) (b a : Int) : hitAt (chF l b a) r (chF l b a).length 0 ↔ ¬ alikeR l b a r := by
  constructor
  · rintro (⟨j, hj, _, h1, p, h2, h3⟩ | ⟨h, _⟩) hal
    · have hm := (chF_mem _).1 (List.getElem_mem hj)
      rw [hm.1, h1] at h2
      exact hal p h2 h3
    · omega
  · intro h
    have : ∃ p ∈ ddF l r.key b a, hitS r p := Decidable.byContradiction fun hn => h fun p hp hh => hn ⟨p, hp, hh⟩
    obtain ⟨p, hp, hh⟩ := this
    have hne : ddF l r.key b a ≠ [] := fun e => by rw [e] at hp; cases hp
    have hmem : (r.key, ddF l r.key b a) ∈ chF l b a := (chF_mem _).2 ⟨rfl, hne⟩
    obtain ⟨j, hj, he⟩ := List.getElem_of_mem hmem
    exact .inl ⟨j, hj, hj, by rw [he], p, by rw [he]; exact hp, hh⟩
theorem alikeF_one (l : List Fa) (r : Rd) (b a : Int) : alikeF l [r] b a = decide (alikeR l b a r) := by
  unfold alikeF
  simp
set_option maxRecDepth 20000
set_option maxHeartbeats 4000000
set_option linter.unusedSimpArgs false
attribute [local irreducible] PSub Wp PSpec Le Need Both
attribute [local irreducible] atF addF chF chkF ptsF alikeF uptoF hitAt
theorem read_law (l : List Fa) (hl : l.length ≤ 140737488355328) (r : Rd) (b a : Int) : PSpec Try.prog 9 [encFs l, .agg (encRd r), .int b, .int a] (.bool true) := by
  obtain ⟨t, ht⟩ : ∃ t : Bool, t = true := ⟨_, rfl⟩
  have q0 := sane_spec
  rw [← ht] at q0
  have hlm : (l.map encFa).length = l.length := List.length_map ..
  by_cases hfew : l.length ≤ 10
  case neg =>
    refine PSpec.of_vc (fun Γ => more8 false Γ.P Γ.fx) (fun Γ => more8_ok) Try.func9 rfl Try.call9 (by simp) ?_
    rintro ⟨P, N, w0, X, β0, fx, y, hy, pk, df⟩ rfl rfl rfl hoff rfl; change y.on = false at hoff
    skip
    refine .inl ⟨_, q0, ?_⟩
    repeat' ((try conv => whnf); first | (first | refine k3 (fun hb => ?_) fun hb => ?_ | refine k4 (fun hb => ?_) fun hb => ?_) <;> (try rw [List.length_map] at hb) <;> (try (exfalso; omega; done)) | refine k5 (fun hb => ?_) fun hb => ?_ | fail)
    all_goals first
      | (exfalso; subst ht; contradiction)
      | (exfalso; simp_all; done)
      | skip
    all_goals exact PSub.refl _
  have qc := changed_spec l b a (by omega)
  have qa := alike_spec l [r] b a (by omega) (by simp)
  rw [alikeF_one] at qa
  have hall := hitAt_all l r b a
  have hmem := fun x hx => (chF_mem (l := l) (b := b) (a := a) x).1 hx
  obtain ⟨hc1, hc2⟩ := chF_sz l b a
  have hat := fun (k : Ky) (d c : Int) => at_spec l k d c (by omega)
  obtain ⟨C, hC⟩ : ∃ C, C = chF l b a := ⟨_, rfl⟩
  rw [← hC] at qc hall hmem hc1 hc2
  have hCm : (C.map encDf).length = C.length := List.length_map ..
  -- what is known of a span
  have hsp : ∀ i (h : i < C.length) m (hm : m < C[i].2.length), 0 ≤ (C[i].2[m]).1 ∧ (C[i].2[m]).1 < (C[i].2[m]).2 ∧ (C[i].2[m]).2 ≤ 1024 ∧ (∀ n (hn : n < C[i].2.length), n < m → (C[i].2[n]).2 < (C[i].2[m]).1) ∧ atF l C[i].1 (C[i].2[m]).1 b ≠ atF l C[i].1 (C[i].2[m]).1 a := fun i h m hm => by
    have h1 := (hmem _ (List.getElem_mem h)).1
    rw [ddF_eq] at h1
    have hto := spN_to (difT l C[i].1 b a) 1024 (C[i].2[m]) (by rw [← h1]; exact List.getElem_mem hm)
    have hgap := spN_gap (difT l C[i].1 b a) 1024
    rw [← h1] at hgap
    refine ⟨hto.1, hto.2.1, hto.2.2, fun n hn hnm => (List.pairwise_iff_getElem.1 hgap) n m hn hm hnm, ?_⟩
    have hs := spN_sound (difT l C[i].1 b a) 1024 (C[i].2[m]) (by rw [← h1]; exact List.getElem_mem hm) (C[i].2[m]).1.toNat (by omega) (by omega)
    rw [difT_iff, show (((C[i].2[m]).1.toNat : Nat) : Int) = (C[i].2[m]).1 by omega] at hs
    exact hs
  refine PSpec.of_vc (fun Γ => more8 false Γ.P Γ.fx) (fun Γ => more8_ok) Try.func9 rfl Try.call9 (by simp) ?_
  rintro ⟨P, N, w0, X, β0, fx, y, hy, pk, df⟩ rfl rfl rfl hoff rfl; change y.on = false at hoff
  skip
  refine .inl ⟨_, q0, ?_⟩
  repeat' ((try conv => whnf); first | (first | refine k3 (fun hb => ?_) fun hb => ?_ | refine k4 (fun hb => ?_) fun hb => ?_) <;> (try rw [List.length_map] at hb) <;> (try (exfalso; omega; done)) | refine k5 (fun hb => ?_) fun hb => ?_ | fail)
  all_goals first
    | (exfalso; subst ht; contradiction)
    | (exfalso; simp_all; done)
    | skip
  refine .inl ⟨_, qc, ?_⟩
  repeat' ((try conv => whnf); first | refine And.intro rfl ?_ | fail)
  refine Wp.loop (fun x : Nat × Bool => ⟨[(0, .pure (encFs l)), (2, .int b), (3, .int a), (5, .loc 5 0 0), (9, .pure (encDfs C)), (10, .bool x.2), (11, .int x.1)], [(5, some (.box (pures (encRd r))))], [5]⟩) (fun x => x.1 ≤ C.length ∧ (x.2 = true ↔ hitAt C r x.1 0)) (fun x => C.length - x.1) (0, false) (Le.of ?_ ?_ rfl rfl rfl) ⟨Nat.zero_le _, by simp [hitAt_zero]⟩ ?_
  · (repeat' (first | exact trivial | refine And.intro ?_ ?_ | exact Or.inl rfl | fail))
  · (repeat' (first | exact trivial | refine And.intro ?_ ?_ | refine Exists.intro _ (And.intro rfl ?_) | exact Or.inl rfl | fail))
  rintro ⟨i, hb0⟩ ⟨hi, hhit⟩
  dsimp only at hi hhit ⊢
  by_cases hi2 : i < C.length
  · have hEl := hc2 C[i] (List.getElem_mem _)
    have hEm : (C[i].2.map encPt).length = C[i].2.length := List.length_map ..
    have hnx := hitAt_next (r := r) hi2
    refine code_sound (more := more8 false _ _) more8_ok FOK.wide _ ?_
    repeat' ((try conv => whnf); first | (first | refine k3 (fun hb => ?_) fun hb => ?_ | refine k4 (fun hb => ?_) fun hb => ?_) <;> (try rw [List.length_map] at hb) <;> (try (exfalso; omega; done)) | fail)
    refine Wp.loop (fun x : Nat × Bool => ⟨[(0, .pure (encFs l)), (2, .int b), (3, .int a), (5, .loc 5 0 0), (9, .pure (encDfs C)), (10, .bool x.2), (11, .int i), (12, .int x.1)], [(5, some (.box (pures (encRd r))))], [5]⟩) (fun x => x.1 ≤ C[i].2.length ∧ (x.2 = true ↔ hitAt C r i x.1)) (fun x => C[i].2.length - x.1) (0, hb0) (Le.of ?_ ?_ rfl rfl rfl) ⟨Nat.zero_le _, hhit⟩ ?_
    · (repeat' (first | exact trivial | refine And.intro ?_ ?_ | exact Or.inl rfl | fail))
    · (repeat' (first | exact trivial | refine And.intro ?_ ?_ | refine Exists.intro _ (And.intro rfl ?_) | exact Or.inl rfl | fail))
    clear hhit
    rintro ⟨m, hb1⟩ ⟨hm, hhit⟩
    dsimp only at hm hhit ⊢
    by_cases hm2 : m < C[i].2.length
    · obtain ⟨s1', s2', s3', s4', s5'⟩ := hsp i hi2 m hm2
      have hst := hitAt_step (r := r) hi2 hm2
      have p1 := hat C[i].1 (C[i].2[m]).1 b
      have p2 := hat C[i].1 (C[i].2[m]).1 a
      obtain ⟨⟨v, o⟩, hx⟩ : ∃ x, x = atF l C[i].1 (C[i].2[m]).1 b := ⟨_, rfl⟩
      obtain ⟨⟨w, o'⟩, hx'⟩ : ∃ x, x = atF l C[i].1 (C[i].2[m]).1 a := ⟨_, rfl⟩
      rw [← hx] at p1 s5'
      rw [← hx'] at p2 s5'
      have qk := kyEq C[i].1 r.key
      have hgap : 0 < m → ∀ h : ((m : Int) - 1).toNat < C[i].2.length, (C[i].2[((m : Int) - 1).toNat]'h).2 < (C[i].2[m]).1 := fun h0 h => s4' _ h (by omega)
      have hgl : 0 < m → ((m : Int) - 1).toNat < C[i].2.length := fun h0 => by omega
      refine code_sound (more := more8 false _ _) more8_ok FOK.wide _ ?_
      repeat' ((try conv => whnf); first | (first | refine k3 (fun hb => ?_) fun hb => ?_ | refine k4 (fun hb => ?_) fun hb => ?_) <;> (try rw [List.length_map] at hb) <;> (try (exfalso; omega; done)) | refine And.intro rfl ?_ | refine s5 nm nm ?_ | fail)
      by_cases hk : C[i].1 = r.key
      · rw [decide_eq_true hk] at qk
        refine Wp.draw (more := more8 true _ _) more8_det more8_ok FOK.wide rfl (by decide +kernel) (by conv => lhs; reduce) ?_
        repeat' ((try conv => whnf); first | (first | refine k3 (fun hb => ?_) fun hb => ?_ | refine k4 (fun hb => ?_) fun hb => ?_) <;> (try rw [List.length_map] at hb) <;> (try (exfalso; omega; done)) | refine s4 nm ?_ | refine s5 nm nm ?_ | refine s6 nm nm ?_ | fail)
        · exfalso
          have := hgap (by omega) (by omega)
          omega
        · refine Wp.draw (more := more8 true _ _) more8_det more8_ok FOK.wide rfl (by decide +kernel) (by conv => lhs; reduce) ?_
          repeat' ((try conv => whnf); first | refine s5 nm nm ?_ | fail)
          refine ⟨_, p1, ?_⟩
          skip
          refine Wp.draw (more := more8 true _ _) more8_det more8_ok FOK.wide rfl (by decide +kernel) (by conv => lhs; reduce) ?_
          repeat' ((try conv => whnf); first | refine s5 nm nm ?_ | fail)
          refine ⟨_, p2, ?_⟩
          repeat' ((try conv => whnf); first | refine k2 (fun hb => ?_) fun hb => ?_ | (first | refine k3 (fun hb => ?_) fun hb => ?_ | refine k4 (fun hb => ?_) fun hb => ?_) <;> (try rw [List.length_map] at hb) <;> (try (exfalso; omega; done)) | fail)
          all_goals first
            | (exfalso; simp_all; done)
            | skip
          all_goals
            refine Wp.draw (more := more8 true _ _) more8_det more8_ok FOK.wide rfl (by decide +kernel) (by conv => lhs; reduce) ?_
            repeat' ((try conv => whnf); first | refine s5 nm nm ?_ | fail)
            refine ⟨_, qk, by first | exact isAg | exact isAp, by first | exact isAg | exact isAp, ?_⟩
            repeat' ((try conv => whnf); first | (first | refine k3 (fun hb => ?_) fun hb => ?_ | refine k4 (fun hb => ?_) fun hb => ?_) <;> (try rw [List.length_map] at hb) <;> (try (exfalso; omega; done)) | refine s4 nm ?_ | fail)
          all_goals first
            | exact ⟨(m + 1, true), Le.of (by (repeat' (first | exact trivial | refine And.intro ?_ ?_ | exact Or.inl rfl | fail))) (by (repeat' (first | exact trivial | refine And.intro ?_ ?_ | refine Exists.intro _ (And.intro rfl ?_) | exact Or.inl rfl | fail))) rfl rfl rfl, ⟨by simp only; omega, iff_of_true rfl (hst.2 (.inr ⟨hk, by unfold hitS; omega⟩))⟩, by simp only; omega⟩
            | exact ⟨(m + 1, hb1), Le.of (by (repeat' (first | exact trivial | refine And.intro ?_ ?_ | exact Or.inl rfl | fail))) (by (repeat' (first | exact trivial | refine And.intro ?_ ?_ | refine Exists.intro _ (And.intro rfl ?_) | exact Or.inl rfl | fail))) rfl rfl rfl, ⟨by simp only; omega, by
                simp only
                rw [hst, hhit]
                refine ⟨.inl, fun h => ?_⟩
                rcases h with h | ⟨h1, h2⟩
                · exact h
                · exfalso
                  first
                    | exact hk h1
                    | (unfold hitS at h2; omega)⟩, by simp only; omega⟩
        · refine Wp.draw (more := more8 true _ _) more8_det more8_ok FOK.wide rfl (by decide +kernel) (by conv => lhs; reduce) ?_
          repeat' ((try conv => whnf); first | refine s5 nm nm ?_ | fail)
          refine ⟨_, p1, ?_⟩
          skip
          refine Wp.draw (more := more8 true _ _) more8_det more8_ok FOK.wide rfl (by decide +kernel) (by conv => lhs; reduce) ?_
          repeat' ((try conv => whnf); first | refine s5 nm nm ?_ | fail)
          refine ⟨_, p2, ?_⟩
          repeat' ((try conv => whnf); first | refine k2 (fun hb => ?_) fun hb => ?_ | (first | refine k3 (fun hb => ?_) fun hb => ?_ | refine k4 (fun hb => ?_) fun hb => ?_) <;> (try rw [List.length_map] at hb) <;> (try (exfalso; omega; done)) | fail)
          all_goals first
            | (exfalso; simp_all; done)
            | skip
          all_goals
            refine Wp.draw (more := more8 true _ _) more8_det more8_ok FOK.wide rfl (by decide +kernel) (by conv => lhs; reduce) ?_
            repeat' ((try conv => whnf); first | refine s5 nm nm ?_ | fail)
            refine ⟨_, qk, by first | exact isAg | exact isAp, by first | exact isAg | exact isAp, ?_⟩
            repeat' ((try conv => whnf); first | (first | refine k3 (fun hb => ?_) fun hb => ?_ | refine k4 (fun hb => ?_) fun hb => ?_) <;> (try rw [List.length_map] at hb) <;> (try (exfalso; omega; done)) | refine s4 nm ?_ | fail)
          all_goals first
            | exact ⟨(m + 1, true), Le.of (by (repeat' (first | exact trivial | refine And.intro ?_ ?_ | exact Or.inl rfl | fail))) (by (repeat' (first | exact trivial | refine And.intro ?_ ?_ | refine Exists.intro _ (And.intro rfl ?_) | exact Or.inl rfl | fail))) rfl rfl rfl, ⟨by simp only; omega, iff_of_true rfl (hst.2 (.inr ⟨hk, by unfold hitS; omega⟩))⟩, by simp only; omega⟩
            | exact ⟨(m + 1, hb1), Le.of (by (repeat' (first | exact trivial | refine And.intro ?_ ?_ | exact Or.inl rfl | fail))) (by (repeat' (first | exact trivial | refine And.intro ?_ ?_ | refine Exists.intro _ (And.intro rfl ?_) | exact Or.inl rfl | fail))) rfl rfl rfl, ⟨by simp only; omega, by
                simp only
                rw [hst, hhit]
                refine ⟨.inl, fun h => ?_⟩
                rcases h with h | ⟨h1, h2⟩
                · exact h
                · exfalso
                  first
                    | exact hk h1
                    | (unfold hitS at h2; omega)⟩, by simp only; omega⟩
      · rw [decide_eq_false hk] at qk
        refine Wp.draw (more := more8 true _ _) more8_det more8_ok FOK.wide rfl (by decide +kernel) (by conv => lhs; reduce) ?_
        repeat' ((try conv => whnf); first | (first | refine k3 (fun hb => ?_) fun hb => ?_ | refine k4 (fun hb => ?_) fun hb => ?_) <;> (try rw [List.length_map] at hb) <;> (try (exfalso; omega; done)) | refine s4 nm ?_ | refine s5 nm nm ?_ | refine s6 nm nm ?_ | fail)
        · exfalso
          have := hgap (by omega) (by omega)
          omega
        · refine Wp.draw (more := more8 true _ _) more8_det more8_ok FOK.wide rfl (by decide +kernel) (by conv => lhs; reduce) ?_
          repeat' ((try conv => whnf); first | refine s5 nm nm ?_ | fail)
          refine ⟨_, p1, ?_⟩
          skip
          refine Wp.draw (more := more8 true _ _) more8_det more8_ok FOK.wide rfl (by decide +kernel) (by conv => lhs; reduce) ?_
          repeat' ((try conv => whnf); first | refine s5 nm nm ?_ | fail)
          refine ⟨_, p2, ?_⟩
          repeat' ((try conv => whnf); first | refine k2 (fun hb => ?_) fun hb => ?_ | (first | refine k3 (fun hb => ?_) fun hb => ?_ | refine k4 (fun hb => ?_) fun hb => ?_) <;> (try rw [List.length_map] at hb) <;> (try (exfalso; omega; done)) | fail)
          all_goals first
            | (exfalso; simp_all; done)
            | skip
          all_goals
            refine Wp.draw (more := more8 true _ _) more8_det more8_ok FOK.wide rfl (by decide +kernel) (by conv => lhs; reduce) ?_
            repeat' ((try conv => whnf); first | refine s5 nm nm ?_ | fail)
            refine ⟨_, qk, by first | exact isAg | exact isAp, by first | exact isAg | exact isAp, ?_⟩
            repeat' ((try conv => whnf); first | refine s4 nm ?_ | fail)
          all_goals first
            | exact ⟨(m + 1, true), Le.of (by skip) (by skip) rfl rfl rfl, ⟨by simp only; omega, iff_of_true rfl (hst.2 (.inr ⟨hk, by unfold hitS; omega⟩))⟩, by simp only; omega⟩
            | exact ⟨(m + 1, hb1), Le.of (by (repeat' (first | exact trivial | refine And.intro ?_ ?_ | exact Or.inl rfl | fail))) (by (repeat' (first | exact trivial | refine And.intro ?_ ?_ | refine Exists.intro _ (And.intro rfl ?_) | exact Or.inl rfl | fail))) rfl rfl rfl, ⟨by simp only; omega, by
                simp only
                rw [hst, hhit]
                refine ⟨.inl, fun h => ?_⟩
                rcases h with h | ⟨h1, h2⟩
                · exact h
                · exfalso
                  first
                    | exact hk h1
                    | (unfold hitS at h2; omega)⟩, by simp only; omega⟩
        · refine Wp.draw (more := more8 true _ _) more8_det more8_ok FOK.wide rfl (by decide +kernel) (by conv => lhs; reduce) ?_
          repeat' ((try conv => whnf); first | refine s5 nm nm ?_ | fail)
          refine ⟨_, p1, ?_⟩
          skip
          refine Wp.draw (more := more8 true _ _) more8_det more8_ok FOK.wide rfl (by decide +kernel) (by conv => lhs; reduce) ?_
          repeat' ((try conv => whnf); first | refine s5 nm nm ?_ | fail)
          refine ⟨_, p2, ?_⟩
          repeat' ((try conv => whnf); first | refine k2 (fun hb => ?_) fun hb => ?_ | (first | refine k3 (fun hb => ?_) fun hb => ?_ | refine k4 (fun hb => ?_) fun hb => ?_) <;> (try rw [List.length_map] at hb) <;> (try (exfalso; omega; done)) | fail)
          all_goals first
            | (exfalso; simp_all; done)
            | skip
          all_goals
            refine Wp.draw (more := more8 true _ _) more8_det more8_ok FOK.wide rfl (by decide +kernel) (by conv => lhs; reduce) ?_
            repeat' ((try conv => whnf); first | refine s5 nm nm ?_ | fail)
            refine ⟨_, qk, by first | exact isAg | exact isAp, by first | exact isAg | exact isAp, ?_⟩
            repeat' ((try conv => whnf); first | refine s4 nm ?_ | fail)
          all_goals first
            | exact ⟨(m + 1, true), Le.of (by skip) (by skip) rfl rfl rfl, ⟨by simp only; omega, iff_of_true rfl (hst.2 (.inr ⟨hk, by unfold hitS; omega⟩))⟩, by simp only; omega⟩
            | exact ⟨(m + 1, hb1), Le.of (by (repeat' (first | exact trivial | refine And.intro ?_ ?_ | exact Or.inl rfl | fail))) (by (repeat' (first | exact trivial | refine And.intro ?_ ?_ | refine Exists.intro _ (And.intro rfl ?_) | exact Or.inl rfl | fail))) rfl rfl rfl, ⟨by simp only; omega, by
                simp only
                rw [hst, hhit]
                refine ⟨.inl, fun h => ?_⟩
                rcases h with h | ⟨h1, h2⟩
                · exact h
                · exfalso
                  first
                    | exact hk h1
                    | (unfold hitS at h2; omega)⟩, by simp only; omega⟩
    · have em : m = C[i].2.length := by omega
      subst em
      refine code_sound (more := more8 false _ _) more8_ok FOK.wide _ ?_
      repeat' ((try conv => whnf); first | (first | refine k3 (fun hb => ?_) fun hb => ?_ | refine k4 (fun hb => ?_) fun hb => ?_) <;> (try rw [List.length_map] at hb) <;> (try (exfalso; omega; done)) | refine s4 nm ?_ | refine s5 nm nm ?_ | fail)
      exact ⟨(i + 1, hb1), Le.of (by (repeat' (first | exact trivial | refine And.intro ?_ ?_ | exact Or.inl rfl | fail))) (by (repeat' (first | exact trivial | refine And.intro ?_ ?_ | refine Exists.intro _ (And.intro rfl ?_) | exact Or.inl rfl | fail))) rfl rfl rfl, ⟨hi2, hhit.trans hnx.symm⟩, by simp only; omega⟩
  · have ei : i = C.length := by omega
    subst ei
    refine code_sound (more := more8 false _ _) more8_ok FOK.wide _ ?_
    repeat' ((try conv => whnf); first | (first | refine k3 (fun hb => ?_) fun hb => ?_ | refine k4 (fun hb => ?_) fun hb => ?_) <;> (try rw [List.length_map] at hb) <;> (try (exfalso; omega; done)) | refine And.intro bd ?_ | fail)
    refine .inl ⟨_, qa, ?_⟩
    skip
    refine PSub.of_eq (congrArg (fun b => PV.val (.bool b)) ?_)
    rw [hall] at hhit
    cases hb0 with
    | true => rw [decide_eq_false (hhit.1 rfl)]; rfl
    | false =>
      have : alikeR l b a r := Decidable.byContradiction fun h => Bool.false_ne_true (hhit.2 h)
      rw [decide_eq_true this]; rfl
end Go.Proofs.Ytinhhmnnfbeimaa
