/- Facts: the law FactsCounts. Conditions: none. -/
import Derived.Test.YtinhhmnnfbeimaaWd
import Derived.Test.YtinhhmnnfbeimaaWm
import Derived.Test.YtinhhmnnfbeimaaWg
import Derived.KernelRfl
set_option linter.unusedSimpArgs false
set_option linter.unusedVariables false
namespace Go.Proofs.Ytinhhmnnfbeimaa
open Go.Avc
/-- None of the first m facts counts beside the i-th. -/
def lastTo (l : List Fa) (k : Ky) (day kn : Int) (i m : Nat) : Prop := ∃ h : i < l.length, ∀ j (hj : j < l.length), j < m → onD k day kn l[j] → ¬ l[i].bef l[j] ∧ (i < j → l[j].bef l[i])
theorem lastTo_zero {l : List Fa} {k : Ky} {day kn : Int} {i : Nat} (h : i < l.length) : lastTo l k day kn i 0 := ⟨h, fun _ _ h => absurd h (Nat.not_lt_zero _)⟩
theorem lastTo_ok {l : List Fa} {k : Ky} {day kn : Int} {i m : Nat} (h : i < l.length) (hm : m < l.length) (hg : onD k day kn l[m] → ¬ l[i].bef l[m] ∧ (i < m → l[m].bef l[i])) : lastTo l k day kn i (m + 1) ↔ lastTo l k day kn i m := by
  constructor
  · rintro ⟨h1, h2⟩
    exact ⟨h1, fun j hj hjm => h2 j hj (by omega)⟩
  · rintro ⟨h1, h2⟩
    refine ⟨h1, fun j hj hjm ho => ?_⟩
    by_cases e : j = m
    · subst e; exact hg ho
    · exact h2 j hj (by omega) ho
theorem lastTo_bad {l : List Fa} {k : Ky} {day kn : Int} {i m : Nat} (hm : m < l.length) (h : i < l.length) (ho : onD k day kn l[m]) (hg : l[i].bef l[m] ∨ (i < m ∧ ¬ l[m].bef l[i])) : ¬ lastTo l k day kn i (m + 1) := by
  rintro ⟨h1, h2⟩
  obtain ⟨a, b⟩ := h2 m hm (by omega) ho
  rcases hg with hg | ⟨hg1, hg2⟩
  · exact a hg
  · exact hg2 (b hg1)
theorem lastTo_all {l : List Fa} {k : Ky} {day kn : Int} {i : Nat} (h : i < l.length) (ho : onD k day kn l[i]) : lastTo l k day kn i l.length ↔ lastAt l k day kn i := by
  constructor
  · rintro ⟨h1, h2⟩
    exact ⟨h1, ho, fun j hj hoj => h2 j hj hj hoj⟩
  · rintro ⟨h1, _, h2⟩
    exact ⟨h1, fun j hj _ hoj => h2 j hj hoj⟩
theorem lastAt_on {l : List Fa} {k : Ky} {day kn : Int} {i : Nat} (h : lastAt l k day kn i) (hi : i < l.length) : onD k day kn l[i] := by
  obtain ⟨_, h1, _⟩ := h
  exact h1
/-- Among the first i facts is one that is about the key on the day; one that counts. -/
def anyTo (l : List Fa) (k : Ky) (day kn : Int) (i : Nat) : Prop := ∃ j, ∃ h : j < l.length, j < i ∧ onD k day kn l[j]
def metTo (l : List Fa) (k : Ky) (day kn : Int) (i : Nat) : Prop := ∃ j, j < i ∧ lastAt l k day kn j
theorem anyTo_all {l : List Fa} {k : Ky} {day kn : Int} {i : Nat} (h : i < l.length) (ho : onD k day kn l[i]) : anyTo l k day kn l.length := ⟨i, h, h, ho⟩
theorem anyTo_zero (l : List Fa) (k : Ky) (day kn : Int) : ¬ anyTo l k day kn 0 := by rintro ⟨_, _, h, _⟩; omega
theorem metTo_zero (l : List Fa) (k : Ky) (day kn : Int) : ¬ metTo l k day kn 0 := by rintro ⟨_, h, _⟩; omega
theorem anyTo_no {l : List Fa} {k : Ky} {day kn : Int} {i : Nat} (h : i < l.length) (ho : ¬ onD k day kn l[i]) : anyTo l k day kn (i + 1) ↔ anyTo l k day kn i := by
  constructor
  · rintro ⟨j, hj, hji, h1⟩
    by_cases e : j = i
    · subst e; exact absurd h1 ho
    · exact ⟨j, hj, by omega, h1⟩
  · rintro ⟨j, hj, hji, h1⟩
    exact ⟨j, hj, by omega, h1⟩
theorem anyTo_yes {l : List Fa} {k : Ky} {day kn : Int} {i : Nat} (h : i < l.length) (ho : onD k day kn l[i]) : anyTo l k day kn (i + 1) := ⟨i, h, by omega, ho⟩
theorem metTo_no {l : List Fa} {k : Ky} {day kn : Int} {i : Nat} (ho : ¬ lastAt l k day kn i) : metTo l k day kn (i + 1) ↔ metTo l k day kn i := by
  constructor
  · rintro ⟨j, hji, h1⟩
    by_cases e : j = i
    · subst e; exact absurd h1 ho
    · exact ⟨j, by omega, h1⟩
  · rintro ⟨j, hji, h1⟩
    exact ⟨j, by omega, h1⟩
theorem metTo_yes {l : List Fa} {k : Ky} {day kn : Int} {i : Nat} (ho : lastAt l k day kn i) : metTo l k day kn (i + 1) := ⟨i, by omega, ho⟩
/-- What At answers, told by the fact that counts. -/
theorem at_last (l : List Fa) (k : Ky) (day kn : Int) : (¬ anyTo l k day kn l.length ∧ ¬ metTo l k day kn l.length ∧ atF l k day kn = (0, false)) ∨
    (anyTo l k day kn l.length ∧ metTo l k day kn l.length ∧ ((atF l k day kn).2 = true ∨ (atF l k day kn).1 = 0) ∧ ∀ i (h : i < l.length), lastAt l k day kn i → ((atF l k day kn).2 = true ↔ 0 ≤ l[i].value) ∧ ((atF l k day kn).2 = true → (atF l k day kn).1 = l[i].value)) := by
  rcases bestF_last l k day kn with ⟨h1, h2⟩ | ⟨i, hi, h1, h2⟩
  · refine .inl ⟨?_, ?_, by unfold atF; rw [h1]; rfl⟩
    · rintro ⟨j, hj, _, ho⟩; exact h2 j hj ho
    · rintro ⟨j, _, hj, ho, _⟩; exact h2 j hj ho
  · have hv : atF l k day kn = if l[i].value < 0 then (0, false) else (l[i].value, true) := by unfold atF; rw [h1]; rfl
    obtain ⟨_, hon, _⟩ := id h2
    refine .inr ⟨⟨i, hi, hi, hon⟩, ⟨i, hi, h2⟩, ?_, fun j hj hl => ?_⟩
    · rw [hv]; split
      · exact .inr rfl
      · exact .inl rfl
    · have := lastAt_uniq hl h2
      subst this
      by_cases hlt : l[j].value < 0
      · rw [hv, if_pos hlt]
        exact ⟨⟨fun h => (Bool.false_ne_true h).elim, fun h => by omega⟩, fun h => (Bool.false_ne_true h).elim⟩
      · rw [hv, if_neg hlt]
        exact ⟨⟨fun _ => by omega, fun _ => rfl⟩, fun _ => rfl⟩
set_option maxRecDepth 20000
set_option maxHeartbeats 4000000
set_option linter.unusedSimpArgs false
attribute [local irreducible] PSub Wp PSpec Le Need Both
attribute [local irreducible] atF addF chF chkF ptsF alikeF uptoF Fa.bef lastTo lastAt anyTo metTo
theorem counts_law (l : List Fa) (hl : l.length ≤ 140737488355328) (k : Ky) (day kn : Int) : PSpec Try.prog 8 [encFs l, .agg (encKy k), .int day, .int kn] (.bool true) := by
  obtain ⟨t, ht⟩ : ∃ t : Bool, t = true := ⟨_, rfl⟩
  have q0 := sane_spec
  rw [← ht] at q0
  by_cases hfew : l.length ≤ 30
  case neg =>
    have qf := few_spec l hl
    rw [decide_eq_false hfew] at qf
    refine PSpec.of_vc (fun Γ => more8 false Γ.P Γ.fx) (fun Γ => more8_ok) Try.func8 rfl Try.call8 (by simp) ?_
    rintro ⟨P, N, w0, X, β0, fx, y, hy, pk, df⟩ rfl rfl rfl hoff rfl; change y.on = false at hoff
    skip
    refine .inl ⟨_, q0, ?_⟩
    repeat' ((try conv => whnf); first | refine k5 (fun hb => ?_) fun hb => ?_ | fail)
    all_goals first
      | (exfalso; subst ht; contradiction)
      | skip
    refine .inl ⟨_, qf, ?_⟩
    skip
    exact PSub.refl _
  have qf := few_spec l hl
  rw [decide_eq_true hfew, ← ht] at qf
  have hlm : (l.map encFa).length = l.length := List.length_map ..
  by_cases hl0 : 0 < l.length
  · obtain ⟨sb, hsb, hse⟩ := and31 k.subj
    have hml : ((sb % l.length : Nat) : Int).toNat < l.length := by
      have := Nat.mod_lt sb hl0
      omega
    have hml2 : ((sb % l.length : Nat) : Int) < l.length := by
      have := Nat.mod_lt sb hl0
      omega
    have qa := at_spec l (l[((sb % l.length : Nat) : Int).toNat]'hml).key day kn (by omega)
    have hla := at_last l (l[((sb % l.length : Nat) : Int).toNat]'hml).key day kn
    have qk := fun i (h : i < l.length) => kyEq l[i].key (l[((sb % l.length : Nat) : Int).toNat]'hml).key
    obtain ⟨⟨v, ok⟩, hx⟩ : ∃ x, x = atF l (l[((sb % l.length : Nat) : Int).toNat]'hml).key day kn := ⟨_, rfl⟩
    rw [← hx] at qa hla
    dsimp only at hla
    refine PSpec.of_vc (fun Γ => more8 false Γ.P Γ.fx) (fun Γ => more8_ok) Try.func8 rfl Try.call8 (by simp) ?_
    rintro ⟨P, N, w0, X, β0, fx, y, hy, pk, df⟩ rfl rfl rfl hoff rfl; change y.on = false at hoff
    skip
    refine .inl ⟨_, q0, ?_⟩
    repeat' ((try conv => whnf); first | refine k5 (fun hb => ?_) fun hb => ?_ | fail)
    all_goals first
      | (exfalso; subst ht; contradiction)
      | (exfalso; simp_all; done)
      | skip
    refine .inl ⟨_, qf, ?_⟩
    repeat' ((try conv => whnf); first | (first | refine k3 (fun hb => ?_) fun hb => ?_ | refine k4 (fun hb => ?_) fun hb => ?_) <;> (try rw [List.length_map] at hb) <;> (try (exfalso; omega; done)) | refine k5 (fun hb => ?_) fun hb => ?_ | fail)
    all_goals first
      | (exfalso; subst ht; contradiction)
      | (exfalso; simp_all; done)
      | skip
    refine ⟨(sb : Int), hse, ?_⟩
    repeat' ((try conv => whnf); first | refine And.intro bd ?_ | fail)
    refine ⟨((sb % l.length : Nat) : Int), by rw [hlm]; rfl, ?_⟩
    repeat' ((try conv => whnf); first | refine And.intro rfl ?_ | refine s5 nm nm ?_ | fail)
    refine .inl ⟨_, qa, ?_⟩
    skip
    refine Wp.loop (fun x : Nat × Bool × Bool => ⟨[(0, .pure (encFs l)), (2, .int day), (3, .int kn), (5, .loc 5 0 0), (9, .int v), (10, .bool ok), (11, .bool x.2.1), (12, .bool x.2.2), (13, .int x.1)], [(5, some (.box (pures (encKy (l[((sb % l.length : Nat) : Int).toNat]'hml).key))))], [5]⟩) (fun x => x.1 ≤ l.length ∧ (x.2.1 = true ↔ metTo l (l[((sb % l.length : Nat) : Int).toNat]'hml).key day kn x.1) ∧ (x.2.2 = true ↔ anyTo l (l[((sb % l.length : Nat) : Int).toNat]'hml).key day kn x.1)) (fun x => l.length - x.1) (0, false, false) (Le.of ?_ ?_ rfl rfl rfl) ⟨Nat.zero_le _, by simp [metTo_zero], by simp [anyTo_zero]⟩ ?_
    · (repeat' (first | exact trivial | refine And.intro ?_ ?_ | exact Or.inl rfl | fail))
    · (repeat' (first | exact trivial | refine And.intro ?_ ?_ | refine Exists.intro _ (And.intro rfl ?_) | exact Or.inl rfl | fail))
    generalize (l[((sb % l.length : Nat) : Int).toNat]'hml).key = κ at hla qk ⊢
    rintro ⟨i, mt, sm⟩ ⟨hi, hmt, hsm⟩
    dsimp only at hi hmt hsm ⊢
    by_cases hi2 : i < l.length
    · have q := qk i hi2
      by_cases ho : onD κ day kn l[i]
      · obtain ⟨o1, o2, o3, o4⟩ := id ho
        rw [decide_eq_true o1] at q
        have hany := anyTo_yes hi2 ho
        have hall := lastTo_all hi2 ho
        refine code_sound (more := more8 false _ _) more8_ok FOK.wide _ ?_
        repeat' ((try conv => whnf); first | (first | refine k3 (fun hb => ?_) fun hb => ?_ | refine k4 (fun hb => ?_) fun hb => ?_) <;> (try rw [List.length_map] at hb) <;> (try (exfalso; omega; done)) | fail)
        refine Wp.draw (more := more8 true _ _) more8_det more8_ok FOK.wide rfl (by decide +kernel) (by conv => lhs; reduce) ?_
        repeat' ((try conv => whnf); first | refine s5 nm nm ?_ | fail)
        refine ⟨_, q, by first | exact isAg | exact isAp, by first | exact isAg | exact isAp, ?_⟩
        repeat' ((try conv => whnf); first | (first | refine k3 (fun hb => ?_) fun hb => ?_ | refine k4 (fun hb => ?_) fun hb => ?_) <;> (try rw [List.length_map] at hb) <;> (try (exfalso; omega; done)) | refine s5 nm nm ?_ | fail)
        refine Wp.loop (fun x : Nat × Bool => ⟨[(0, .pure (encFs l)), (2, .int day), (3, .int kn), (5, .loc 5 0 0), (9, .int v), (10, .bool ok), (11, .bool mt), (13, .int i), (14, .bool x.2), (15, .int x.1)], [(5, some (.box (pures (encKy κ))))], [5]⟩) (fun x => x.1 ≤ l.length ∧ (x.2 = true ↔ lastTo l κ day kn i x.1)) (fun x => l.length - x.1) (0, true) (Le.of ?_ ?_ rfl rfl rfl) ⟨Nat.zero_le _, iff_of_true rfl (lastTo_zero hi2)⟩ ?_
        · (repeat' (first | exact trivial | refine And.intro ?_ ?_ | exact Or.inl rfl | fail))
        · (repeat' (first | exact trivial | refine And.intro ?_ ?_ | refine Exists.intro _ (And.intro rfl ?_) | exact Or.inl rfl | fail))
        rintro ⟨j, la⟩ ⟨hj, hla2⟩
        dsimp only at hj hla2 ⊢
        by_cases hj2 : j < l.length
        · have qj := qk j hj2
          by_cases hoj : onD κ day kn l[j]
          · obtain ⟨u1, u2, u3, u4⟩ := id hoj
            rw [decide_eq_true u1] at qj
            have b1 := before_spec l[i] l[j]
            have b2 := before_spec l[j] l[i]
            by_cases hb1 : l[i].bef l[j]
            · rw [decide_eq_true hb1] at b1
              have hbad := lastTo_bad (day := day) (kn := kn) hj2 hi2 hoj (.inl hb1)
              refine code_sound (more := more8 false _ _) more8_ok FOK.wide _ ?_
              repeat' ((try conv => whnf); first | (first | refine k3 (fun hb => ?_) fun hb => ?_ | refine k4 (fun hb => ?_) fun hb => ?_) <;> (try rw [List.length_map] at hb) <;> (try (exfalso; omega; done)) | fail)
              refine Wp.draw (more := more8 true _ _) more8_det more8_ok FOK.wide rfl (by decide +kernel) (by conv => lhs; reduce) ?_
              repeat' ((try conv => whnf); first | refine s5 nm nm ?_ | fail)
              refine ⟨_, qj, by first | exact isAg | exact isAp, by first | exact isAg | exact isAp, ?_⟩
              repeat' ((try conv => whnf); first | (first | refine k3 (fun hb => ?_) fun hb => ?_ | refine k4 (fun hb => ?_) fun hb => ?_) <;> (try rw [List.length_map] at hb) <;> (try (exfalso; omega; done)) | refine s5 nm nm ?_ | fail)
              refine ⟨_, b1, ?_⟩
              repeat' ((try conv => whnf); first | refine s4 nm ?_ | fail)
              exact ⟨(j + 1, false), Le.of (by (repeat' (first | exact trivial | refine And.intro ?_ ?_ | exact Or.inl rfl | fail))) (by (repeat' (first | exact trivial | refine And.intro ?_ ?_ | refine Exists.intro _ (And.intro rfl ?_) | exact Or.inl rfl | fail))) rfl rfl rfl, ⟨by simp only; omega, iff_of_false Bool.false_ne_true hbad⟩, by simp only; omega⟩
            · rw [decide_eq_false hb1] at b1
              by_cases hij : i < j
              · by_cases hb2 : l[j].bef l[i]
                · rw [decide_eq_true hb2] at b2
                  have hok := lastTo_ok (k := κ) (day := day) (kn := kn) hi2 hj2 (fun _ => ⟨hb1, fun _ => hb2⟩)
                  refine code_sound (more := more8 false _ _) more8_ok FOK.wide _ ?_
                  repeat' ((try conv => whnf); first | (first | refine k3 (fun hb => ?_) fun hb => ?_ | refine k4 (fun hb => ?_) fun hb => ?_) <;> (try rw [List.length_map] at hb) <;> (try (exfalso; omega; done)) | fail)
                  refine Wp.draw (more := more8 true _ _) more8_det more8_ok FOK.wide rfl (by decide +kernel) (by conv => lhs; reduce) ?_
                  repeat' ((try conv => whnf); first | refine s5 nm nm ?_ | fail)
                  refine ⟨_, qj, by first | exact isAg | exact isAp, by first | exact isAg | exact isAp, ?_⟩
                  repeat' ((try conv => whnf); first | (first | refine k3 (fun hb => ?_) fun hb => ?_ | refine k4 (fun hb => ?_) fun hb => ?_) <;> (try rw [List.length_map] at hb) <;> (try (exfalso; omega; done)) | refine s5 nm nm ?_ | fail)
                  refine ⟨_, b1, ?_⟩
                  repeat' ((try conv => whnf); first | (first | refine k3 (fun hb => ?_) fun hb => ?_ | refine k4 (fun hb => ?_) fun hb => ?_) <;> (try rw [List.length_map] at hb) <;> (try (exfalso; omega; done)) | refine s5 nm nm ?_ | fail)
                  refine ⟨_, b2, ?_⟩
                  repeat' ((try conv => whnf); first | refine s4 nm ?_ | fail)
                  exact ⟨(j + 1, la), Le.of (by (repeat' (first | exact trivial | refine And.intro ?_ ?_ | exact Or.inl rfl | fail))) (by (repeat' (first | exact trivial | refine And.intro ?_ ?_ | refine Exists.intro _ (And.intro rfl ?_) | exact Or.inl rfl | fail))) rfl rfl rfl, ⟨by simp only; omega, hla2.trans hok.symm⟩, by simp only; omega⟩
                · rw [decide_eq_false hb2] at b2
                  have hbad := lastTo_bad (day := day) (kn := kn) hj2 hi2 hoj (.inr ⟨hij, hb2⟩)
                  refine code_sound (more := more8 false _ _) more8_ok FOK.wide _ ?_
                  repeat' ((try conv => whnf); first | (first | refine k3 (fun hb => ?_) fun hb => ?_ | refine k4 (fun hb => ?_) fun hb => ?_) <;> (try rw [List.length_map] at hb) <;> (try (exfalso; omega; done)) | fail)
                  refine Wp.draw (more := more8 true _ _) more8_det more8_ok FOK.wide rfl (by decide +kernel) (by conv => lhs; reduce) ?_
                  repeat' ((try conv => whnf); first | refine s5 nm nm ?_ | fail)
                  refine ⟨_, qj, by first | exact isAg | exact isAp, by first | exact isAg | exact isAp, ?_⟩
                  repeat' ((try conv => whnf); first | (first | refine k3 (fun hb => ?_) fun hb => ?_ | refine k4 (fun hb => ?_) fun hb => ?_) <;> (try rw [List.length_map] at hb) <;> (try (exfalso; omega; done)) | refine s5 nm nm ?_ | fail)
                  refine ⟨_, b1, ?_⟩
                  repeat' ((try conv => whnf); first | (first | refine k3 (fun hb => ?_) fun hb => ?_ | refine k4 (fun hb => ?_) fun hb => ?_) <;> (try rw [List.length_map] at hb) <;> (try (exfalso; omega; done)) | refine s5 nm nm ?_ | fail)
                  refine ⟨_, b2, ?_⟩
                  repeat' ((try conv => whnf); first | refine s4 nm ?_ | fail)
                  exact ⟨(j + 1, false), Le.of (by (repeat' (first | exact trivial | refine And.intro ?_ ?_ | exact Or.inl rfl | fail))) (by (repeat' (first | exact trivial | refine And.intro ?_ ?_ | refine Exists.intro _ (And.intro rfl ?_) | exact Or.inl rfl | fail))) rfl rfl rfl, ⟨by simp only; omega, iff_of_false Bool.false_ne_true hbad⟩, by simp only; omega⟩
              · have hok := lastTo_ok (k := κ) (day := day) (kn := kn) hi2 hj2 (fun _ => ⟨hb1, fun h => absurd h hij⟩)
                refine code_sound (more := more8 false _ _) more8_ok FOK.wide _ ?_
                repeat' ((try conv => whnf); first | (first | refine k3 (fun hb => ?_) fun hb => ?_ | refine k4 (fun hb => ?_) fun hb => ?_) <;> (try rw [List.length_map] at hb) <;> (try (exfalso; omega; done)) | fail)
                refine Wp.draw (more := more8 true _ _) more8_det more8_ok FOK.wide rfl (by decide +kernel) (by conv => lhs; reduce) ?_
                repeat' ((try conv => whnf); first | refine s5 nm nm ?_ | fail)
                refine ⟨_, qj, by first | exact isAg | exact isAp, by first | exact isAg | exact isAp, ?_⟩
                repeat' ((try conv => whnf); first | (first | refine k3 (fun hb => ?_) fun hb => ?_ | refine k4 (fun hb => ?_) fun hb => ?_) <;> (try rw [List.length_map] at hb) <;> (try (exfalso; omega; done)) | refine s5 nm nm ?_ | fail)
                refine ⟨_, b1, ?_⟩
                repeat' ((try conv => whnf); first | (first | refine k3 (fun hb => ?_) fun hb => ?_ | refine k4 (fun hb => ?_) fun hb => ?_) <;> (try rw [List.length_map] at hb) <;> (try (exfalso; omega; done)) | refine s4 nm ?_ | fail)
                exact ⟨(j + 1, la), Le.of (by (repeat' (first | exact trivial | refine And.intro ?_ ?_ | exact Or.inl rfl | fail))) (by (repeat' (first | exact trivial | refine And.intro ?_ ?_ | refine Exists.intro _ (And.intro rfl ?_) | exact Or.inl rfl | fail))) rfl rfl rfl, ⟨by simp only; omega, hla2.trans hok.symm⟩, by simp only; omega⟩
          · have hok := lastTo_ok (k := κ) (day := day) (kn := kn) hi2 hj2 (fun h => absurd h hoj)
            by_cases hk : l[j].key = κ
            · rw [decide_eq_true hk] at qj
              have hno : ¬ (l[j].lo ≤ day ∧ day < l[j].hi ∧ l[j].known ≤ kn) := fun h => hoj ⟨hk, h⟩
              refine code_sound (more := more8 false _ _) more8_ok FOK.wide _ ?_
              repeat' ((try conv => whnf); first | (first | refine k3 (fun hb => ?_) fun hb => ?_ | refine k4 (fun hb => ?_) fun hb => ?_) <;> (try rw [List.length_map] at hb) <;> (try (exfalso; omega; done)) | fail)
              refine Wp.draw (more := more8 true _ _) more8_det more8_ok FOK.wide rfl (by decide +kernel) (by conv => lhs; reduce) ?_
              repeat' ((try conv => whnf); first | refine s5 nm nm ?_ | fail)
              refine ⟨_, qj, by first | exact isAg | exact isAp, by first | exact isAg | exact isAp, ?_⟩
              repeat' ((try conv => whnf); first | (first | refine k3 (fun hb => ?_) fun hb => ?_ | refine k4 (fun hb => ?_) fun hb => ?_) <;> (try rw [List.length_map] at hb) <;> (try (exfalso; omega; done)) | refine s4 nm ?_ | refine s5 nm nm ?_ | fail)
              all_goals exact ⟨(j + 1, la), Le.of (by (repeat' (first | exact trivial | refine And.intro ?_ ?_ | exact Or.inl rfl | fail))) (by (repeat' (first | exact trivial | refine And.intro ?_ ?_ | refine Exists.intro _ (And.intro rfl ?_) | exact Or.inl rfl | fail))) rfl rfl rfl, ⟨by simp only; omega, hla2.trans hok.symm⟩, by simp only; omega⟩
            · rw [decide_eq_false hk] at qj
              refine code_sound (more := more8 false _ _) more8_ok FOK.wide _ ?_
              repeat' ((try conv => whnf); first | (first | refine k3 (fun hb => ?_) fun hb => ?_ | refine k4 (fun hb => ?_) fun hb => ?_) <;> (try rw [List.length_map] at hb) <;> (try (exfalso; omega; done)) | fail)
              refine Wp.draw (more := more8 true _ _) more8_det more8_ok FOK.wide rfl (by decide +kernel) (by conv => lhs; reduce) ?_
              repeat' ((try conv => whnf); first | refine s5 nm nm ?_ | fail)
              refine ⟨_, qj, by first | exact isAg | exact isAp, by first | exact isAg | exact isAp, ?_⟩
              repeat' ((try conv => whnf); first | refine s4 nm ?_ | fail)
              all_goals exact ⟨(j + 1, la), Le.of (by (repeat' (first | exact trivial | refine And.intro ?_ ?_ | exact Or.inl rfl | fail))) (by (repeat' (first | exact trivial | refine And.intro ?_ ?_ | refine Exists.intro _ (And.intro rfl ?_) | exact Or.inl rfl | fail))) rfl rfl rfl, ⟨by simp only; omega, hla2.trans hok.symm⟩, by simp only; omega⟩
        · have ej : j = l.length := by omega
          subst ej
          have hla3 := hla2.trans hall
          cases hlb : la with
          | true =>
            have hat := hla3.1 hlb
            have hm1 := metTo_yes hat
            obtain ⟨w1, w2⟩ : (ok = true ↔ 0 ≤ l[i].value) ∧ (ok = true → v = l[i].value) := by
              rcases hla with ⟨h1, _⟩ | ⟨_, _, _, h4⟩
              · exact absurd (anyTo_all hi2 ho) h1
              · exact h4 i hi2 hat
            rcases Bool.eq_false_or_eq_true ok with hok | hok
            · have w3 := w1.1 hok
              have w4 := w2 hok
              refine code_sound (more := more8 false _ _) more8_ok FOK.wide _ ?_
              repeat' ((try conv => whnf); first | refine k1 (fun hb => ?_) fun hb => ?_ | (first | refine k3 (fun hb => ?_) fun hb => ?_ | refine k4 (fun hb => ?_) fun hb => ?_) <;> (try rw [List.length_map] at hb) <;> (try (exfalso; omega; done)) | refine k6 (fun hb => ?_) fun hb => ?_ | refine s4 nm ?_ | refine s5 nm nm ?_ | fail)
              all_goals first
                | exact ⟨(i + 1, true, true), Le.of (by (repeat' (first | exact trivial | refine And.intro ?_ ?_ | exact Or.inl rfl | fail))) (by (repeat' (first | exact trivial | refine And.intro ?_ ?_ | refine Exists.intro _ (And.intro rfl ?_) | exact Or.inl rfl | fail))) rfl rfl rfl, ⟨by simp only; omega, iff_of_true rfl hm1, iff_of_true rfl hany⟩, by simp only; omega⟩
                | (exfalso; omega)
                | (exfalso; simp_all; done)
                | (exfalso; simp_all; omega)
            · have w3 : ¬ 0 ≤ l[i].value := fun h => Bool.false_ne_true (hok.symm.trans (w1.2 h))
              refine code_sound (more := more8 false _ _) more8_ok FOK.wide _ ?_
              repeat' ((try conv => whnf); first | refine k1 (fun hb => ?_) fun hb => ?_ | (first | refine k3 (fun hb => ?_) fun hb => ?_ | refine k4 (fun hb => ?_) fun hb => ?_) <;> (try rw [List.length_map] at hb) <;> (try (exfalso; omega; done)) | refine k6 (fun hb => ?_) fun hb => ?_ | refine s4 nm ?_ | refine s5 nm nm ?_ | fail)
              all_goals first
                | exact ⟨(i + 1, true, true), Le.of (by (repeat' (first | exact trivial | refine And.intro ?_ ?_ | exact Or.inl rfl | fail))) (by (repeat' (first | exact trivial | refine And.intro ?_ ?_ | refine Exists.intro _ (And.intro rfl ?_) | exact Or.inl rfl | fail))) rfl rfl rfl, ⟨by simp only; omega, iff_of_true rfl hm1, iff_of_true rfl hany⟩, by simp only; omega⟩
                | (exfalso; omega)
                | (exfalso; simp_all; done)
                | (exfalso; simp_all; omega)
          | false =>
            have hm1 := metTo_no (fun h => Bool.false_ne_true (hlb ▸ hla3.2 h))
            refine code_sound (more := more8 false _ _) more8_ok FOK.wide _ ?_
            repeat' ((try conv => whnf); first | (first | refine k3 (fun hb => ?_) fun hb => ?_ | refine k4 (fun hb => ?_) fun hb => ?_) <;> (try rw [List.length_map] at hb) <;> (try (exfalso; omega; done)) | refine s4 nm ?_ | fail)
            exact ⟨(i + 1, mt, true), Le.of (by (repeat' (first | exact trivial | refine And.intro ?_ ?_ | exact Or.inl rfl | fail))) (by (repeat' (first | exact trivial | refine And.intro ?_ ?_ | refine Exists.intro _ (And.intro rfl ?_) | exact Or.inl rfl | fail))) rfl rfl rfl, ⟨by simp only; omega, hmt.trans hm1.symm, iff_of_true rfl hany⟩, by simp only; omega⟩
      · have hm1 := metTo_no (l := l) (k := κ) (day := day) (kn := kn) (i := i) (fun h => ho (lastAt_on h hi2))
        have ha1 := anyTo_no hi2 ho
        by_cases hk : l[i].key = κ
        · rw [decide_eq_true hk] at q
          have hno : ¬ (l[i].lo ≤ day ∧ day < l[i].hi ∧ l[i].known ≤ kn) := fun h => ho ⟨hk, h⟩
          refine code_sound (more := more8 false _ _) more8_ok FOK.wide _ ?_
          repeat' ((try conv => whnf); first | (first | refine k3 (fun hb => ?_) fun hb => ?_ | refine k4 (fun hb => ?_) fun hb => ?_) <;> (try rw [List.length_map] at hb) <;> (try (exfalso; omega; done)) | fail)
          refine Wp.draw (more := more8 true _ _) more8_det more8_ok FOK.wide rfl (by decide +kernel) (by conv => lhs; reduce) ?_
          repeat' ((try conv => whnf); first | refine s5 nm nm ?_ | fail)
          refine ⟨_, q, by first | exact isAg | exact isAp, by first | exact isAg | exact isAp, ?_⟩
          repeat' ((try conv => whnf); first | (first | refine k3 (fun hb => ?_) fun hb => ?_ | refine k4 (fun hb => ?_) fun hb => ?_) <;> (try rw [List.length_map] at hb) <;> (try (exfalso; omega; done)) | refine s4 nm ?_ | refine s5 nm nm ?_ | fail)
          all_goals exact ⟨(i + 1, mt, sm), Le.of (by (repeat' (first | exact trivial | refine And.intro ?_ ?_ | exact Or.inl rfl | fail))) (by (repeat' (first | exact trivial | refine And.intro ?_ ?_ | refine Exists.intro _ (And.intro rfl ?_) | exact Or.inl rfl | fail))) rfl rfl rfl, ⟨by simp only; omega, hmt.trans hm1.symm, hsm.trans ha1.symm⟩, by simp only; omega⟩
        · rw [decide_eq_false hk] at q
          refine code_sound (more := more8 false _ _) more8_ok FOK.wide _ ?_
          repeat' ((try conv => whnf); first | (first | refine k3 (fun hb => ?_) fun hb => ?_ | refine k4 (fun hb => ?_) fun hb => ?_) <;> (try rw [List.length_map] at hb) <;> (try (exfalso; omega; done)) | fail)
          refine Wp.draw (more := more8 true _ _) more8_det more8_ok FOK.wide rfl (by decide +kernel) (by conv => lhs; reduce) ?_
          repeat' ((try conv => whnf); first | refine s5 nm nm ?_ | fail)
          refine ⟨_, q, by first | exact isAg | exact isAp, by first | exact isAg | exact isAp, ?_⟩
          repeat' ((try conv => whnf); first | refine s4 nm ?_ | fail)
          all_goals exact ⟨(i + 1, mt, sm), Le.of (by (repeat' (first | exact trivial | refine And.intro ?_ ?_ | exact Or.inl rfl | fail))) (by (repeat' (first | exact trivial | refine And.intro ?_ ?_ | refine Exists.intro _ (And.intro rfl ?_) | exact Or.inl rfl | fail))) rfl rfl rfl, ⟨by simp only; omega, hmt.trans hm1.symm, hsm.trans ha1.symm⟩, by simp only; omega⟩
    · have ei : i = l.length := by omega
      subst ei
      rcases hla with ⟨h1, h2, h3⟩ | ⟨h1, h2, h3, _⟩
      · have e1 : mt = false := Bool.eq_false_iff.2 fun h => h2 (hmt.1 h)
        have e2 : sm = false := Bool.eq_false_iff.2 fun h => h1 (hsm.1 h)
        have e3 : v = 0 := congrArg Prod.fst h3
        have e4 : ok = false := congrArg Prod.snd h3
        rw [e1, e2, e3, e4]
        refine code_sound (more := more8 false _ _) more8_ok FOK.wide _ ?_
        repeat' ((try conv => whnf); first | (first | refine k3 (fun hb => ?_) fun hb => ?_ | refine k4 (fun hb => ?_) fun hb => ?_) <;> (try rw [List.length_map] at hb) <;> (try (exfalso; omega; done)) | fail)
        exact PSub.refl _
      · have e1 : mt = true := hmt.2 h2
        have e2 : sm = true := hsm.2 h1
        rw [e1, e2]
        cases hok : ok with
        | true =>
          refine code_sound (more := more8 false _ _) more8_ok FOK.wide _ ?_
          repeat' ((try conv => whnf); first | (first | refine k3 (fun hb => ?_) fun hb => ?_ | refine k4 (fun hb => ?_) fun hb => ?_) <;> (try rw [List.length_map] at hb) <;> (try (exfalso; omega; done)) | fail)
          exact PSub.refl _
        | false =>
          have e3 : v = 0 := by
            rcases h3 with h | h
            · rw [hok] at h; cases h
            · exact h
          rw [e3]
          refine code_sound (more := more8 false _ _) more8_ok FOK.wide _ ?_
          repeat' ((try conv => whnf); first | (first | refine k3 (fun hb => ?_) fun hb => ?_ | refine k4 (fun hb => ?_) fun hb => ?_) <;> (try rw [List.length_map] at hb) <;> (try (exfalso; omega; done)) | fail)
          exact PSub.refl _
  · have qa := at_spec l k day kn (by omega)
    have hla := at_last l k day kn
    have qk := fun i (h : i < l.length) => kyEq l[i].key k
    obtain ⟨⟨v, ok⟩, hx⟩ : ∃ x, x = atF l k day kn := ⟨_, rfl⟩
    rw [← hx] at qa hla
    dsimp only at hla
    refine PSpec.of_vc (fun Γ => more8 false Γ.P Γ.fx) (fun Γ => more8_ok) Try.func8 rfl Try.call8 (by simp) ?_
    rintro ⟨P, N, w0, X, β0, fx, y, hy, pk, df⟩ rfl rfl rfl hoff rfl; change y.on = false at hoff
    skip
    refine .inl ⟨_, q0, ?_⟩
    repeat' ((try conv => whnf); first | refine k5 (fun hb => ?_) fun hb => ?_ | fail)
    all_goals first
      | (exfalso; subst ht; contradiction)
      | (exfalso; simp_all; done)
      | skip
    refine .inl ⟨_, qf, ?_⟩
    repeat' ((try conv => whnf); first | (first | refine k3 (fun hb => ?_) fun hb => ?_ | refine k4 (fun hb => ?_) fun hb => ?_) <;> (try rw [List.length_map] at hb) <;> (try (exfalso; omega; done)) | refine k5 (fun hb => ?_) fun hb => ?_ | fail)
    all_goals first
      | (exfalso; subst ht; contradiction)
      | (exfalso; simp_all; done)
      | skip
    refine .inl ⟨_, qa, ?_⟩
    skip
    refine Wp.loop (fun x : Nat × Bool × Bool => ⟨[(0, .pure (encFs l)), (2, .int day), (3, .int kn), (5, .loc 5 0 0), (9, .int v), (10, .bool ok), (11, .bool x.2.1), (12, .bool x.2.2), (13, .int x.1)], [(5, some (.box (pures (encKy k))))], [5]⟩) (fun x => x.1 ≤ l.length ∧ (x.2.1 = true ↔ metTo l k day kn x.1) ∧ (x.2.2 = true ↔ anyTo l k day kn x.1)) (fun x => l.length - x.1) (0, false, false) (Le.of ?_ ?_ rfl rfl rfl) ⟨Nat.zero_le _, by simp [metTo_zero], by simp [anyTo_zero]⟩ ?_
    · (repeat' (first | exact trivial | refine And.intro ?_ ?_ | exact Or.inl rfl | fail))
    · (repeat' (first | exact trivial | refine And.intro ?_ ?_ | refine Exists.intro _ (And.intro rfl ?_) | exact Or.inl rfl | fail))
    generalize k = κ at hla qk ⊢
    rintro ⟨i, mt, sm⟩ ⟨hi, hmt, hsm⟩
    dsimp only at hi hmt hsm ⊢
    by_cases hi2 : i < l.length
    · exact absurd hi2 (by omega)
    · have ei : i = l.length := by omega
      subst ei
      rcases hla with ⟨h1, h2, h3⟩ | ⟨h1, h2, h3, _⟩
      · have e1 : mt = false := Bool.eq_false_iff.2 fun h => h2 (hmt.1 h)
        have e2 : sm = false := Bool.eq_false_iff.2 fun h => h1 (hsm.1 h)
        have e3 : v = 0 := congrArg Prod.fst h3
        have e4 : ok = false := congrArg Prod.snd h3
        rw [e1, e2, e3, e4]
        refine code_sound (more := more8 false _ _) more8_ok FOK.wide _ ?_
        repeat' ((try conv => whnf); first | (first | refine k3 (fun hb => ?_) fun hb => ?_ | refine k4 (fun hb => ?_) fun hb => ?_) <;> (try rw [List.length_map] at hb) <;> (try (exfalso; omega; done)) | fail)
        exact PSub.refl _
      · have e1 : mt = true := hmt.2 h2
        have e2 : sm = true := hsm.2 h1
        rw [e1, e2]
        cases hok : ok with
        | true =>
          refine code_sound (more := more8 false _ _) more8_ok FOK.wide _ ?_
          repeat' ((try conv => whnf); first | (first | refine k3 (fun hb => ?_) fun hb => ?_ | refine k4 (fun hb => ?_) fun hb => ?_) <;> (try rw [List.length_map] at hb) <;> (try (exfalso; omega; done)) | fail)
          exact PSub.refl _
        | false =>
          have e3 : v = 0 := by
            rcases h3 with h | h
            · rw [hok] at h; cases h
            · exact h
          rw [e3]
          refine code_sound (more := more8 false _ _) more8_ok FOK.wide _ ?_
          repeat' ((try conv => whnf); first | (first | refine k3 (fun hb => ?_) fun hb => ?_ | refine k4 (fun hb => ?_) fun hb => ?_) <;> (try rw [List.length_map] at hb) <;> (try (exfalso; omega; done)) | fail)
          exact PSub.refl _
end Go.Proofs.Ytinhhmnnfbeimaa
/- Facts: how the arguments of the laws open. Conditions: none. -/
namespace Go.Proofs.Ytinhhmnnfbeimaa
open Go.Avc
theorem own : ownKnob Try.prog.godebug = none := by kernel_rfl
theorem laidOut : laidOutB Try.prog = true := by kernel_rfl
theorem op_int : Opn Try.prog 3 (fun ps => ∃ n : Int, ps = [.int n]) := (Opn.int Try.underlying3).mono fun _ ⟨n, h, _⟩ => ⟨n, h⟩
theorem reach_len {n m : Nat} (h : n * m ≤ reachBytes) (hm : 0 < m) : n ≤ 140737488355328 := by
  have h1 : n * 1 ≤ n * m := Nat.mul_le_mul_left n hm
  have h2 : reachBytes ≤ 140737488355328 := by decide
  omega
structure Sp where
  lo : Int
  hi : Int
def encSp (x : Sp) : List PV := [.int x.lo, .int x.hi]
theorem op_ky : Opn Try.prog 24 (fun ps => ∃ x : Ky, ps = encKy x) :=
  (Opn.struct (Qs := [_, _, _]) Try.underlying24 (by kernel_rfl) (fun fuel => ⟨op_int fuel, op_int fuel, op_int fuel, trivial⟩)).mono fun _ h => by
    obtain ⟨_, ⟨a, rfl⟩, _, ⟨_, ⟨b, rfl⟩, _, ⟨_, ⟨c, rfl⟩, _, rfl, rfl⟩, rfl⟩, rfl⟩ := h
    exact ⟨⟨a, b, c⟩, rfl⟩
theorem op_sp : Opn Try.prog 26 (fun ps => ∃ x : Sp, ps = encSp x) :=
  (Opn.struct (Qs := [_, _]) Try.underlying26 (by kernel_rfl) (fun fuel => ⟨op_int fuel, op_int fuel, trivial⟩)).mono fun _ h => by
    obtain ⟨_, ⟨a, rfl⟩, _, ⟨_, ⟨b, rfl⟩, _, rfl, rfl⟩, rfl⟩ := h
    exact ⟨⟨a, b⟩, rfl⟩
theorem op_fa : Opn Try.prog 28 (fun ps => ∃ x : Fa, ps = encFa x) :=
  (Opn.struct (Qs := [_, _, _, _, _]) Try.underlying28 (by kernel_rfl) (fun fuel => ⟨op_ky fuel, op_int fuel, op_sp fuel, op_int fuel, op_int fuel, trivial⟩)).mono fun _ h => by
    obtain ⟨_, ⟨a, rfl⟩, _, ⟨_, ⟨b, rfl⟩, _, ⟨_, ⟨v, rfl⟩, _, ⟨_, ⟨c, rfl⟩, _, ⟨_, ⟨d, rfl⟩, _, rfl, rfl⟩, rfl⟩, rfl⟩, rfl⟩, rfl⟩ := h
    exact ⟨⟨a, b, v.lo, v.hi, c, d⟩, rfl⟩
theorem op_fas : Opn Try.prog 22 (fun ps => ∃ l : List Fa, ps = [encFs l] ∧ l.length ≤ 140737488355328) :=
  (Opn.slice (n := 8) Try.underlying22 (by kernel_rfl) (by omega) op_fa).mono fun _ ⟨rows, h, hr, hl⟩ => by
    obtain ⟨l, rfl, hq⟩ := rows_map (f := encFa) (R := fun _ => True) (fun r h => by obtain ⟨b, hb⟩ := hr r h; exact ⟨b, hb, trivial⟩)
    rw [List.length_map] at hl
    exact ⟨l, h, reach_len hl (by decide +kernel)⟩
theorem op_rd : Opn Try.prog 54 (fun ps => ∃ x : Rd, ps = encRd x) :=
  (Opn.struct (Qs := [_, _, _]) Try.underlying54 (by kernel_rfl) (fun fuel => ⟨op_ky fuel, op_int fuel, op_int fuel, trivial⟩)).mono fun _ h => by
    obtain ⟨_, ⟨a, rfl⟩, _, ⟨_, ⟨b, rfl⟩, _, ⟨_, ⟨c, rfl⟩, _, rfl, rfl⟩, rfl⟩, rfl⟩ := h
    exact ⟨⟨a, b, c⟩, rfl⟩
theorem op_rds : Opn Try.prog 44 (fun ps => ∃ l : List Rd, ps = [encRds l] ∧ l.length ≤ 140737488355328) :=
  (Opn.slice (n := 5) Try.underlying44 (by kernel_rfl) (by omega) op_rd).mono fun _ ⟨rows, h, hr, hl⟩ => by
    obtain ⟨l, rfl, hq⟩ := rows_map (f := encRd) (R := fun _ => True) (fun r h => by obtain ⟨b, hb⟩ := hr r h; exact ⟨b, hb, trivial⟩)
    rw [List.length_map] at hl
    exact ⟨l, h, reach_len hl (by decide +kernel)⟩
end Go.Proofs.Ytinhhmnnfbeimaa
