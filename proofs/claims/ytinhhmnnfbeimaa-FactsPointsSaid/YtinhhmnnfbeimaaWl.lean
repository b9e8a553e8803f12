/- Facts: the laws FactsCheckSpec, FactsChangedSpec, FactsAtSpec, FactsUpto, FactsPast. Conditions: none. -/
import Derived.Test.YtinhhmnnfbeimaaWd
import Derived.Test.YtinhhmnnfbeimaaWk
set_option linter.unusedSimpArgs false
set_option linter.unusedVariables false
namespace Go.Proofs.Ytinhhmnnfbeimaa
open Go.Avc
theorem tEq {a : Prop} [Decidable a] {t : Bool} (ht : t = true) (h : a) : decide a = t := by rw [ht]; exact decide_eq_true h
set_option maxRecDepth 20000
set_option maxHeartbeats 4000000
set_option linter.unusedSimpArgs false
attribute [local irreducible] PSub Wp PSpec Le Need Both
attribute [local irreducible] atF addF chF chkF ptsF alikeF uptoF
theorem check_law (l : List Fa) (hl : l.length ≤ 140737488355328) (f : Fa) : PSpec Try.prog 3 [encFs l, .agg (encFa f)] (.bool true) := by
  obtain ⟨t, ht⟩ : ∃ t : Bool, t = true := ⟨_, rfl⟩
  have q0 := sane_spec
  rw [← ht] at q0
  by_cases hfew : l.length ≤ 30
  case neg =>
    have qf := few_spec l hl
    rw [decide_eq_false hfew] at qf
    refine PSpec.of_vc (fun Γ => more8 false Γ.P Γ.fx) (fun Γ => more8_ok) Try.func3 rfl Try.call3 (by simp) ?_
    rintro ⟨P, N, w0, X, β0, fx, y, hy, pk, df⟩ rfl rfl rfl hoff rfl; change y.on = false at hoff
    skip
    refine .inl ⟨_, q0, ?_⟩
    repeat' ((try conv => whnf); first | refine k5 (fun hb => ?_) fun hb => ?_ | fail)
    all_goals first
      | (exfalso; subst ht; contradiction)
      | skip
    refine .inl ⟨_, qf, ?_⟩
    skip
    exact PSub.refl _
  have qf := few_spec l hl
  rw [decide_eq_true hfew, ← ht] at qf
  have q1 := add_spec l f (by omega)
  have q2 := radd_spec l f (by omega)
  have q3 := check_spec l (by omega)
  have q4 := rcheck_spec l (by omega)
  have hal : (addF l f).1.length ≤ l.length + 1 := by
    unfold addF
    split
    · simp
    · split
      · split <;> simp
      · simp
  obtain ⟨⟨x, e⟩, hx⟩ : ∃ x, x = addF l f := ⟨_, rfl⟩
  obtain ⟨c, hc⟩ : ∃ c, c = chkF l := ⟨_, rfl⟩
  rw [← hx] at q1 q2 hal
  rw [← hc] at q3 q4
  dsimp only at hal
  have q5 := sameF_spec x x (by omega) (by omega)
  rw [tEq ht rfl] at q5
  refine PSpec.of_vc (fun Γ => more8 false Γ.P Γ.fx) (fun Γ => more8_ok) Try.func3 rfl Try.call3 (by simp) ?_
  rintro ⟨P, N, w0, X, β0, fx, y, hy, pk, df⟩ rfl rfl rfl hoff rfl; change y.on = false at hoff
  skip
  refine .inl ⟨_, q0, ?_⟩
  repeat' ((try conv => whnf); first | refine k5 (fun hb => ?_) fun hb => ?_ | fail)
  all_goals first
    | (exfalso; subst ht; contradiction)
    | (exfalso; simp_all; done)
    | skip
  refine .inl ⟨_, qf, ?_⟩
  repeat' ((try conv => whnf); first | refine k5 (fun hb => ?_) fun hb => ?_ | fail)
  all_goals first
    | (exfalso; subst ht; contradiction)
    | (exfalso; simp_all; done)
    | skip
  refine .inl ⟨_, q1, ?_⟩
  repeat' ((try conv => whnf); first | refine And.intro rfl ?_ | fail)
  refine .inl ⟨_, q2, ?_⟩
  repeat' ((try conv => whnf); first | refine And.intro rfl ?_ | fail)
  refine .inl ⟨_, q3, ?_⟩
  skip
  refine .inl ⟨_, q4, ?_⟩
  repeat' ((try conv => whnf); first | (first | refine k3 (fun hb => ?_) fun hb => ?_ | refine k4 (fun hb => ?_) fun hb => ?_) <;> (try rw [List.length_map] at hb) <;> (try (exfalso; omega; done)) | fail)
  refine .inl ⟨_, q5, ?_⟩
  repeat' ((try conv => whnf); first | refine k6 (fun hb => ?_) fun hb => ?_ | fail)
  all_goals first
    | (exfalso; subst ht; contradiction)
    | exact PSub.of_eq (congrArg (fun b => PV.val (.bool b)) (by simp_all))
theorem changed_law (l : List Fa) (hl : l.length ≤ 140737488355328) (rds : List Rd) (hr : rds.length ≤ 140737488355328) (b a : Int) : PSpec Try.prog 5 [encFs l, encRds rds, .int b, .int a] (.bool true) := by
  obtain ⟨t, ht⟩ : ∃ t : Bool, t = true := ⟨_, rfl⟩
  have q0 := sane_spec
  rw [← ht] at q0
  have hlm : (l.map encFa).length = l.length := List.length_map ..
  have hrm : (rds.map encRd).length = rds.length := List.length_map ..
  by_cases hf : l.length ≤ 14 ∧ rds.length ≤ 6
  · obtain ⟨hf1, hf2⟩ := hf
    have q1 := changed_spec l b a (by omega)
    have q2 := rchanged_spec l b a (by omega)
    have q4 := alike_spec l rds b a (by omega) (by omega)
    have q5 := ralike_spec l rds b a (by omega) (by omega)
    have q6 := upto_spec l b (by omega)
    have q7 := rupto_spec l b (by omega)
    have hu := upto_len l b
    have hch : (chF l b a).length ≤ l.length := by
      have h1 := chL_len l b a (keysF l)
      have h2 := keysF_len l
      unfold chF
      omega
    have hch2 : ∀ x ∈ chF l b a, x.2.length ≤ 1000000 := fun x hx => by
      have := ((chF_mem x).1 hx).1
      have h1 := spN_len (difT l x.1 b a) 1024
      rw [this, ddF_eq]
      omega
    obtain ⟨c, hc⟩ : ∃ c, c = chF l b a := ⟨_, rfl⟩
    obtain ⟨r, hrr⟩ : ∃ r, r = alikeF l rds b a := ⟨_, rfl⟩
    obtain ⟨u, huu⟩ : ∃ r, r = uptoF l b := ⟨_, rfl⟩
    rw [← hc] at q1 q2 hch hch2
    rw [← hrr] at q4 q5
    rw [← huu] at q6 q7 hu
    have q3 := sameD_spec c c (by omega) (by omega) hch2 hch2
    have q8 := sameF_spec u u (by omega) (by omega)
    rw [tEq ht rfl] at q3 q8
    refine PSpec.of_vc (fun Γ => more8 false Γ.P Γ.fx) (fun Γ => more8_ok) Try.func5 rfl Try.call5 (by simp) ?_
    rintro ⟨P, N, w0, X, β0, fx, y, hy, pk, df⟩ rfl rfl rfl hoff rfl; change y.on = false at hoff
    skip
    refine .inl ⟨_, q0, ?_⟩
    repeat' ((try conv => whnf); first | (first | refine k3 (fun hb => ?_) fun hb => ?_ | refine k4 (fun hb => ?_) fun hb => ?_) <;> (try rw [List.length_map] at hb) <;> (try (exfalso; omega; done)) | refine k5 (fun hb => ?_) fun hb => ?_ | fail)
    all_goals first
      | (exfalso; subst ht; contradiction)
      | (exfalso; simp_all; done)
      | skip
    refine .inl ⟨_, q1, ?_⟩
    repeat' ((try conv => whnf); first | refine And.intro rfl ?_ | fail)
    refine .inl ⟨_, q2, ?_⟩
    repeat' ((try conv => whnf); first | refine And.intro rfl ?_ | fail)
    refine .inl ⟨_, q3, ?_⟩
    repeat' ((try conv => whnf); first | refine k6 (fun hb => ?_) fun hb => ?_ | fail)
    all_goals first
      | (exfalso; subst ht; contradiction)
      | (exfalso; simp_all; done)
      | skip
    refine .inl ⟨_, q4, ?_⟩
    skip
    refine .inl ⟨_, q5, ?_⟩
    repeat' ((try conv => whnf); first | refine k2 (fun hb => ?_) fun hb => ?_ | fail)
    all_goals first
      | (exfalso; subst ht; contradiction)
      | (exfalso; simp_all; done)
      | skip
    refine .inl ⟨_, q6, ?_⟩
    repeat' ((try conv => whnf); first | refine And.intro rfl ?_ | fail)
    refine .inl ⟨_, q7, ?_⟩
    repeat' ((try conv => whnf); first | refine And.intro rfl ?_ | fail)
    refine .inl ⟨_, q8, ?_⟩
    skip
    exact PSub.of_eq (by rw [ht])
  · refine PSpec.of_vc (fun Γ => more8 false Γ.P Γ.fx) (fun Γ => more8_ok) Try.func5 rfl Try.call5 (by simp) ?_
    rintro ⟨P, N, w0, X, β0, fx, y, hy, pk, df⟩ rfl rfl rfl hoff rfl; change y.on = false at hoff
    skip
    refine .inl ⟨_, q0, ?_⟩
    repeat' ((try conv => whnf); first | (first | refine k3 (fun hb => ?_) fun hb => ?_ | refine k4 (fun hb => ?_) fun hb => ?_) <;> (try rw [List.length_map] at hb) <;> (try (exfalso; omega; done)) | refine k5 (fun hb => ?_) fun hb => ?_ | fail)
    all_goals first
      | (exfalso; subst ht; contradiction)
      | (exfalso; simp_all; done)
      | skip
    all_goals exact PSub.refl _
theorem at_law (l : List Fa) (hl : l.length ≤ 140737488355328) (k : Ky) (lo hi kn : Int) : PSpec Try.prog 4 [encFs l, .agg (encKy k), .int lo, .int hi, .int kn] (.bool true) := by
  obtain ⟨t, ht⟩ : ∃ t : Bool, t = true := ⟨_, rfl⟩
  have q0 := sane_spec
  rw [← ht] at q0
  by_cases hfew : l.length ≤ 30
  case neg =>
    have qf := few_spec l hl
    rw [decide_eq_false hfew] at qf
    refine PSpec.of_vc (fun Γ => more8 false Γ.P Γ.fx) (fun Γ => more8_ok) Try.func4 rfl Try.call4 (by simp) ?_
    rintro ⟨P, N, w0, X, β0, fx, y, hy, pk, df⟩ rfl rfl rfl hoff rfl; change y.on = false at hoff
    skip
    refine .inl ⟨_, q0, ?_⟩
    repeat' ((try conv => whnf); first | refine k5 (fun hb => ?_) fun hb => ?_ | fail)
    all_goals first
      | (exfalso; subst ht; contradiction)
      | skip
    refine .inl ⟨_, qf, ?_⟩
    skip
    exact PSub.refl _
  have qf := few_spec l hl
  rw [decide_eq_true hfew, ← ht] at qf
  have hlm : (l.map encFa).length = l.length := List.length_map ..
  by_cases hl0 : 0 < l.length
  · have hln : l.length - 1 < l.length := by omega
    refine PSpec.of_vc (fun Γ => more8 false Γ.P Γ.fx) (fun Γ => more8_ok) Try.func4 rfl Try.call4 (by simp) ?_
    rintro ⟨P, N, w0, X, β0, fx, y, hy, pk, df⟩ rfl rfl rfl hoff rfl; change y.on = false at hoff
    skip
    refine .inl ⟨_, q0, ?_⟩
    repeat' ((try conv => whnf); first | refine k5 (fun hb => ?_) fun hb => ?_ | fail)
    all_goals first
      | (exfalso; subst ht; contradiction)
      | (exfalso; simp_all; done)
      | skip
    refine .inl ⟨_, qf, ?_⟩
    repeat' ((try conv => whnf); first | (first | refine k3 (fun hb => ?_) fun hb => ?_ | refine k4 (fun hb => ?_) fun hb => ?_) <;> (try rw [List.length_map] at hb) <;> (try (exfalso; omega; done)) | refine k5 (fun hb => ?_) fun hb => ?_ | refine And.intro bd ?_ | fail)
    all_goals first
      | (exfalso; subst ht; contradiction)
      | (exfalso; simp_all; done)
      | skip
    refine Wp.draw (more := more8 true _ _) more8_det more8_ok FOK.wide rfl (by decide +kernel) (by conv => lhs; reduce) ?_
    repeat' ((try conv => whnf); first | refine And.intro rfl ?_ | refine s4 nm ?_ | refine s5 nm nm ?_ | refine s6 nm nm ?_ | refine And.intro bd ?_ | fail)
    have hlz : (((l.map encFa).length : Int) - 1).toNat < l.length := by omega
    refine Wp.loop (fun i : Nat => ⟨[(0, .pure (encFs l)), (2, .int lo), (3, .int hi), (4, .int kn), (11, .pure (encKs [k, (l[0]'hl0).key, (l[(((l.map encFa).length : Int) - 1).toNat]'hlz).key])), (12, .int i)], [], []⟩) (fun i => i ≤ ([k, (l[0]'hl0).key, (l[(((l.map encFa).length : Int) - 1).toNat]'hlz).key]).length) (fun i => ([k, (l[0]'hl0).key, (l[(((l.map encFa).length : Int) - 1).toNat]'hlz).key]).length - i) 0 (Le.trans (Le.frz 40 rfl) (Le.of ?_ ?_ rfl rfl rfl)) (Nat.zero_le _) ?_
    · (repeat' (first | exact trivial | refine And.intro ?_ ?_ | exact Or.inl rfl | fail))
      all_goals (refine SubA.sl ?_; rfl)
    · (repeat' (first | exact trivial | fail))
    have hksl : ([k, (l[0]'hl0).key, (l[(((l.map encFa).length : Int) - 1).toNat]'hlz).key]).length ≤ 3 := by simp
    generalize [k, (l[0]'hl0).key, (l[(((l.map encFa).length : Int) - 1).toNat]'hlz).key] = ks at hksl ⊢
    have hkm : (ks.map encKy).length = ks.length := List.length_map ..
    intro i hik
    by_cases hi2 : i < ks.length
    · have p1 := at_spec l ks[i] lo kn (by omega)
      have p2 := rat_spec l ks[i] lo kn (by omega)
      have p3 := points_spec l ks[i] lo hi kn (by omega)
      have p4 := rpts_spec l ks[i] lo hi kn (by omega)
      have hpl := ptsF_len l ks[i] lo hi kn
      obtain ⟨⟨v, o⟩, hx⟩ : ∃ x, x = atF l ks[i] lo kn := ⟨_, rfl⟩
      obtain ⟨p, hp⟩ : ∃ x, x = ptsF l ks[i] lo hi kn := ⟨_, rfl⟩
      rw [← hx] at p1 p2
      rw [← hp] at p3 p4 hpl
      have p5 := sameP_spec p p (by omega) (by omega)
      rw [tEq ht rfl] at p5
      refine code_sound (more := more8 false _ _) more8_ok FOK.wide _ ?_
      repeat' ((try conv => whnf); first | (first | refine k3 (fun hb => ?_) fun hb => ?_ | refine k4 (fun hb => ?_) fun hb => ?_) <;> (try rw [List.length_map] at hb) <;> (try (exfalso; omega; done)) | refine s5 nm nm ?_ | fail)
      refine .inl ⟨_, p1, ?_⟩
      repeat' ((try conv => whnf); first | refine s5 nm nm ?_ | fail)
      refine .inl ⟨_, p2, ?_⟩
      skip
      refine Wp.draw (more := more8 true _ _) more8_det more8_ok FOK.wide rfl (by decide +kernel) (by conv => lhs; reduce) ?_
      repeat' ((try conv => whnf); first | refine k1 (fun hb => ?_) fun hb => ?_ | (first | refine k3 (fun hb => ?_) fun hb => ?_ | refine k4 (fun hb => ?_) fun hb => ?_) <;> (try rw [List.length_map] at hb) <;> (try (exfalso; omega; done)) | refine s5 nm nm ?_ | fail)
      refine ⟨_, p3, ?_⟩
      repeat' ((try conv => whnf); first | refine And.intro rfl ?_ | refine s5 nm nm ?_ | fail)
      refine ⟨_, p4, ?_⟩
      repeat' ((try conv => whnf); first | refine And.intro rfl ?_ | fail)
      refine ⟨_, p5, ?_⟩
      repeat' ((try conv => whnf); first | refine k5 (fun hb => ?_) fun hb => ?_ | refine s4 nm ?_ | fail)
      all_goals first
        | (exfalso; subst ht; contradiction)
        | (exfalso; simp_all; done)
        | exact ⟨i + 1, Le.of (by (repeat' (first | exact trivial | refine And.intro ?_ ?_ | exact Or.inl rfl | fail))) (by (repeat' (first | exact trivial | fail))) rfl rfl rfl, by omega, by omega⟩
    · refine code_sound (more := more8 false _ _) more8_ok FOK.wide _ ?_
      repeat' ((try conv => whnf); first | (first | refine k3 (fun hb => ?_) fun hb => ?_ | refine k4 (fun hb => ?_) fun hb => ?_) <;> (try rw [List.length_map] at hb) <;> (try (exfalso; omega; done)) | fail)
      exact PSub.refl _
  · refine PSpec.of_vc (fun Γ => more8 false Γ.P Γ.fx) (fun Γ => more8_ok) Try.func4 rfl Try.call4 (by simp) ?_
    rintro ⟨P, N, w0, X, β0, fx, y, hy, pk, df⟩ rfl rfl rfl hoff rfl; change y.on = false at hoff
    skip
    refine .inl ⟨_, q0, ?_⟩
    repeat' ((try conv => whnf); first | refine k5 (fun hb => ?_) fun hb => ?_ | fail)
    all_goals first
      | (exfalso; subst ht; contradiction)
      | (exfalso; simp_all; done)
      | skip
    refine .inl ⟨_, qf, ?_⟩
    repeat' ((try conv => whnf); first | (first | refine k3 (fun hb => ?_) fun hb => ?_ | refine k4 (fun hb => ?_) fun hb => ?_) <;> (try rw [List.length_map] at hb) <;> (try (exfalso; omega; done)) | refine k5 (fun hb => ?_) fun hb => ?_ | refine And.intro bd ?_ | fail)
    all_goals first
      | (exfalso; subst ht; contradiction)
      | (exfalso; simp_all; done)
      | skip
    refine Wp.loop (fun i : Nat => ⟨[(0, .pure (encFs l)), (2, .int lo), (3, .int hi), (4, .int kn), (11, .pure (encKs [k])), (12, .int i)], [], []⟩) (fun i => i ≤ ([k]).length) (fun i => ([k]).length - i) 0 (Le.trans (Le.frz 23 rfl) (Le.of ?_ ?_ rfl rfl rfl)) (Nat.zero_le _) ?_
    · (repeat' (first | exact trivial | refine And.intro ?_ ?_ | exact Or.inl rfl | fail))
      all_goals (refine SubA.sl ?_; rfl)
    · (repeat' (first | exact trivial | fail))
    have hksl : ([k]).length ≤ 3 := by simp
    generalize [k] = ks at hksl ⊢
    have hkm : (ks.map encKy).length = ks.length := List.length_map ..
    intro i hik
    by_cases hi2 : i < ks.length
    · have p1 := at_spec l ks[i] lo kn (by omega)
      have p2 := rat_spec l ks[i] lo kn (by omega)
      have p3 := points_spec l ks[i] lo hi kn (by omega)
      have p4 := rpts_spec l ks[i] lo hi kn (by omega)
      have hpl := ptsF_len l ks[i] lo hi kn
      obtain ⟨⟨v, o⟩, hx⟩ : ∃ x, x = atF l ks[i] lo kn := ⟨_, rfl⟩
      obtain ⟨p, hp⟩ : ∃ x, x = ptsF l ks[i] lo hi kn := ⟨_, rfl⟩
      rw [← hx] at p1 p2
      rw [← hp] at p3 p4 hpl
      have p5 := sameP_spec p p (by omega) (by omega)
      rw [tEq ht rfl] at p5
      refine code_sound (more := more8 false _ _) more8_ok FOK.wide _ ?_
      repeat' ((try conv => whnf); first | (first | refine k3 (fun hb => ?_) fun hb => ?_ | refine k4 (fun hb => ?_) fun hb => ?_) <;> (try rw [List.length_map] at hb) <;> (try (exfalso; omega; done)) | refine s5 nm nm ?_ | fail)
      refine .inl ⟨_, p1, ?_⟩
      repeat' ((try conv => whnf); first | refine s5 nm nm ?_ | fail)
      refine .inl ⟨_, p2, ?_⟩
      skip
      refine Wp.draw (more := more8 true _ _) more8_det more8_ok FOK.wide rfl (by decide +kernel) (by conv => lhs; reduce) ?_
      repeat' ((try conv => whnf); first | refine k1 (fun hb => ?_) fun hb => ?_ | (first | refine k3 (fun hb => ?_) fun hb => ?_ | refine k4 (fun hb => ?_) fun hb => ?_) <;> (try rw [List.length_map] at hb) <;> (try (exfalso; omega; done)) | refine s5 nm nm ?_ | fail)
      refine ⟨_, p3, ?_⟩
      repeat' ((try conv => whnf); first | refine And.intro rfl ?_ | refine s5 nm nm ?_ | fail)
      refine ⟨_, p4, ?_⟩
      repeat' ((try conv => whnf); first | refine And.intro rfl ?_ | fail)
      refine ⟨_, p5, ?_⟩
      repeat' ((try conv => whnf); first | refine k5 (fun hb => ?_) fun hb => ?_ | refine s4 nm ?_ | fail)
      all_goals first
        | (exfalso; subst ht; contradiction)
        | (exfalso; simp_all; done)
        | exact ⟨i + 1, Le.of (by (repeat' (first | exact trivial | refine And.intro ?_ ?_ | exact Or.inl rfl | fail))) (by (repeat' (first | exact trivial | fail))) rfl rfl rfl, by omega, by omega⟩
    · refine code_sound (more := more8 false _ _) more8_ok FOK.wide _ ?_
      repeat' ((try conv => whnf); first | (first | refine k3 (fun hb => ?_) fun hb => ?_ | refine k4 (fun hb => ?_) fun hb => ?_) <;> (try rw [List.length_map] at hb) <;> (try (exfalso; omega; done)) | fail)
      exact PSub.refl _
theorem upto_law (l : List Fa) (hl : l.length ≤ 140737488355328) (k : Ky) (day kn later : Int) : PSpec Try.prog 7 [encFs l, .agg (encKy k), .int day, .int kn, .int later] (.bool true) := by
  obtain ⟨t, ht⟩ : ∃ t : Bool, t = true := ⟨_, rfl⟩
  have q0 := sane_spec
  rw [← ht] at q0
  by_cases hfew : l.length ≤ 30
  case neg =>
    have qf := few_spec l hl
    rw [decide_eq_false hfew] at qf
    refine PSpec.of_vc (fun Γ => more8 false Γ.P Γ.fx) (fun Γ => more8_ok) Try.func7 rfl Try.call7 (by simp) ?_
    rintro ⟨P, N, w0, X, β0, fx, y, hy, pk, df⟩ rfl rfl rfl hoff rfl; change y.on = false at hoff
    skip
    refine .inl ⟨_, q0, ?_⟩
    repeat' ((try conv => whnf); first | refine k5 (fun hb => ?_) fun hb => ?_ | fail)
    all_goals first
      | (exfalso; subst ht; contradiction)
      | skip
    refine .inl ⟨_, qf, ?_⟩
    skip
    exact PSub.refl _
  have qf := few_spec l hl
  rw [decide_eq_true hfew, ← ht] at qf
  have hlm : (l.map encFa).length = l.length := List.length_map ..
  by_cases hlt : later < kn
  · refine PSpec.of_vc (fun Γ => more8 false Γ.P Γ.fx) (fun Γ => more8_ok) Try.func7 rfl Try.call7 (by simp) ?_
    rintro ⟨P, N, w0, X, β0, fx, y, hy, pk, df⟩ rfl rfl rfl hoff rfl; change y.on = false at hoff
    skip
    refine .inl ⟨_, q0, ?_⟩
    repeat' ((try conv => whnf); first | refine k5 (fun hb => ?_) fun hb => ?_ | fail)
    all_goals first
      | (exfalso; subst ht; contradiction)
      | (exfalso; simp_all; done)
      | skip
    refine .inl ⟨_, qf, ?_⟩
    repeat' ((try conv => whnf); first | (first | refine k3 (fun hb => ?_) fun hb => ?_ | refine k4 (fun hb => ?_) fun hb => ?_) <;> (try rw [List.length_map] at hb) <;> (try (exfalso; omega; done)) | refine k5 (fun hb => ?_) fun hb => ?_ | fail)
    all_goals exact PSub.refl _
  have qu := upto_spec l kn (by omega)
  have hul := upto_len l kn
  have hxe : ∀ k, atF (uptoF l kn) k day later = atF l k day kn := fun k => atF_abt (abtF_upto (by omega) k)
  obtain ⟨x, hx⟩ : ∃ x, x = uptoF l kn := ⟨_, rfl⟩
  rw [← hx] at qu hul
  simp only [← hx] at hxe
  clear hx
  have hxm : (x.map encFa).length = x.length := List.length_map ..
  by_cases hl0 : 0 < l.length
  · refine PSpec.of_vc (fun Γ => more8 false Γ.P Γ.fx) (fun Γ => more8_ok) Try.func7 rfl Try.call7 (by simp) ?_
    rintro ⟨P, N, w0, X, β0, fx, y, hy, pk, df⟩ rfl rfl rfl hoff rfl; change y.on = false at hoff
    skip
    refine .inl ⟨_, q0, ?_⟩
    repeat' ((try conv => whnf); first | refine k5 (fun hb => ?_) fun hb => ?_ | fail)
    all_goals first
      | (exfalso; subst ht; contradiction)
      | (exfalso; simp_all; done)
      | skip
    refine .inl ⟨_, qf, ?_⟩
    repeat' ((try conv => whnf); first | (first | refine k3 (fun hb => ?_) fun hb => ?_ | refine k4 (fun hb => ?_) fun hb => ?_) <;> (try rw [List.length_map] at hb) <;> (try (exfalso; omega; done)) | refine k5 (fun hb => ?_) fun hb => ?_ | fail)
    all_goals first
      | (exfalso; subst ht; contradiction)
      | (exfalso; simp_all; done)
      | skip
    refine .inl ⟨_, qu, ?_⟩
    repeat' ((try conv => whnf); first | (first | refine k3 (fun hb => ?_) fun hb => ?_ | refine k4 (fun hb => ?_) fun hb => ?_) <;> (try rw [List.length_map] at hb) <;> (try (exfalso; omega; done)) | refine And.intro rfl ?_ | refine And.intro bd ?_ | fail)
    refine Wp.draw (more := more8 true _ _) more8_det more8_ok FOK.wide rfl (by decide +kernel) (by conv => lhs; reduce) ?_
    repeat' ((try conv => whnf); first | refine s5 nm nm ?_ | refine And.intro bd ?_ | fail)
    refine ⟨((l.length / 2 : Nat) : Int), by rw [hlm]; exact wI (n := ((l.length / 2 : Nat) : Int)) (by omega), ?_⟩
    repeat' ((try conv => whnf); first | refine And.intro rfl ?_ | refine s5 nm nm ?_ | refine And.intro bd ?_ | fail)
    have hlz : ((l.length / 2 : Nat) : Int).toNat < l.length := by omega
    refine Wp.loop (fun i : Nat => ⟨[(0, .pure (encFs l)), (2, .int day), (3, .int kn), (4, .int later), (11, .pure (encFs x)), (12, .pure (encKs [k, (l[0]'hl0).key, (l[((l.length / 2 : Nat) : Int).toNat]'hlz).key])), (13, .int i)], [], []⟩) (fun i => i ≤ ([k, (l[0]'hl0).key, (l[((l.length / 2 : Nat) : Int).toNat]'hlz).key]).length) (fun i => ([k, (l[0]'hl0).key, (l[((l.length / 2 : Nat) : Int).toNat]'hlz).key]).length - i) 0 (Le.trans (Le.frz 49 rfl) (Le.of ?_ ?_ rfl rfl rfl)) (Nat.zero_le _) ?_
    · (repeat' (first | exact trivial | refine And.intro ?_ ?_ | exact Or.inl rfl | fail))
      all_goals (refine SubA.sl ?_; rfl)
    · (repeat' (first | exact trivial | fail))
    have hksl : ([k, (l[0]'hl0).key, (l[((l.length / 2 : Nat) : Int).toNat]'hlz).key]).length ≤ 3 := by simp
    generalize [k, (l[0]'hl0).key, (l[((l.length / 2 : Nat) : Int).toNat]'hlz).key] = ks at hksl ⊢
    have hkm : (ks.map encKy).length = ks.length := List.length_map ..
    intro i hik
    by_cases hi2 : i < ks.length
    · have p1 := at_spec l ks[i] day kn (by omega)
      have p2 := at_spec x ks[i] day later (by omega)
      rw [hxe ks[i]] at p2
      obtain ⟨⟨v, o⟩, hx⟩ : ∃ x, x = atF l ks[i] day kn := ⟨_, rfl⟩
      rw [← hx] at p1 p2
      refine code_sound (more := more8 false _ _) more8_ok FOK.wide _ ?_
      repeat' ((try conv => whnf); first | (first | refine k3 (fun hb => ?_) fun hb => ?_ | refine k4 (fun hb => ?_) fun hb => ?_) <;> (try rw [List.length_map] at hb) <;> (try (exfalso; omega; done)) | refine s5 nm nm ?_ | fail)
      refine .inl ⟨_, p1, ?_⟩
      repeat' ((try conv => whnf); first | refine s5 nm nm ?_ | fail)
      refine .inl ⟨_, p2, ?_⟩
      repeat' ((try conv => whnf); first | refine k1 (fun hb => ?_) fun hb => ?_ | (first | refine k3 (fun hb => ?_) fun hb => ?_ | refine k4 (fun hb => ?_) fun hb => ?_) <;> (try rw [List.length_map] at hb) <;> (try (exfalso; omega; done)) | refine s4 nm ?_ | fail)
      all_goals first
        | (exfalso; subst ht; contradiction)
        | (exfalso; simp_all; done)
        | exact ⟨i + 1, Le.of (by (repeat' (first | exact trivial | refine And.intro ?_ ?_ | exact Or.inl rfl | fail))) (by (repeat' (first | exact trivial | fail))) rfl rfl rfl, by omega, by omega⟩
    · refine code_sound (more := more8 false _ _) more8_ok FOK.wide _ ?_
      repeat' ((try conv => whnf); first | (first | refine k3 (fun hb => ?_) fun hb => ?_ | refine k4 (fun hb => ?_) fun hb => ?_) <;> (try rw [List.length_map] at hb) <;> (try (exfalso; omega; done)) | fail)
      exact PSub.of_eq (congrArg (fun b => PV.val (.bool b)) (decide_eq_true (by omega)))
  · refine PSpec.of_vc (fun Γ => more8 false Γ.P Γ.fx) (fun Γ => more8_ok) Try.func7 rfl Try.call7 (by simp) ?_
    rintro ⟨P, N, w0, X, β0, fx, y, hy, pk, df⟩ rfl rfl rfl hoff rfl; change y.on = false at hoff
    skip
    refine .inl ⟨_, q0, ?_⟩
    repeat' ((try conv => whnf); first | refine k5 (fun hb => ?_) fun hb => ?_ | fail)
    all_goals first
      | (exfalso; subst ht; contradiction)
      | (exfalso; simp_all; done)
      | skip
    refine .inl ⟨_, qf, ?_⟩
    repeat' ((try conv => whnf); first | (first | refine k3 (fun hb => ?_) fun hb => ?_ | refine k4 (fun hb => ?_) fun hb => ?_) <;> (try rw [List.length_map] at hb) <;> (try (exfalso; omega; done)) | refine k5 (fun hb => ?_) fun hb => ?_ | fail)
    all_goals first
      | (exfalso; subst ht; contradiction)
      | (exfalso; simp_all; done)
      | skip
    refine .inl ⟨_, qu, ?_⟩
    repeat' ((try conv => whnf); first | (first | refine k3 (fun hb => ?_) fun hb => ?_ | refine k4 (fun hb => ?_) fun hb => ?_) <;> (try rw [List.length_map] at hb) <;> (try (exfalso; omega; done)) | refine And.intro rfl ?_ | refine And.intro bd ?_ | fail)
    refine Wp.loop (fun i : Nat => ⟨[(0, .pure (encFs l)), (2, .int day), (3, .int kn), (4, .int later), (11, .pure (encFs x)), (12, .pure (encKs [k])), (13, .int i)], [], []⟩) (fun i => i ≤ ([k]).length) (fun i => ([k]).length - i) 0 (Le.trans (Le.frz 32 rfl) (Le.of ?_ ?_ rfl rfl rfl)) (Nat.zero_le _) ?_
    · (repeat' (first | exact trivial | refine And.intro ?_ ?_ | exact Or.inl rfl | fail))
      all_goals (refine SubA.sl ?_; rfl)
    · (repeat' (first | exact trivial | fail))
    have hksl : ([k]).length ≤ 3 := by simp
    generalize [k] = ks at hksl ⊢
    have hkm : (ks.map encKy).length = ks.length := List.length_map ..
    intro i hik
    by_cases hi2 : i < ks.length
    · have p1 := at_spec l ks[i] day kn (by omega)
      have p2 := at_spec x ks[i] day later (by omega)
      rw [hxe ks[i]] at p2
      obtain ⟨⟨v, o⟩, hx⟩ : ∃ x, x = atF l ks[i] day kn := ⟨_, rfl⟩
      rw [← hx] at p1 p2
      refine code_sound (more := more8 false _ _) more8_ok FOK.wide _ ?_
      repeat' ((try conv => whnf); first | (first | refine k3 (fun hb => ?_) fun hb => ?_ | refine k4 (fun hb => ?_) fun hb => ?_) <;> (try rw [List.length_map] at hb) <;> (try (exfalso; omega; done)) | refine s5 nm nm ?_ | fail)
      refine .inl ⟨_, p1, ?_⟩
      repeat' ((try conv => whnf); first | refine s5 nm nm ?_ | fail)
      refine .inl ⟨_, p2, ?_⟩
      repeat' ((try conv => whnf); first | refine k1 (fun hb => ?_) fun hb => ?_ | (first | refine k3 (fun hb => ?_) fun hb => ?_ | refine k4 (fun hb => ?_) fun hb => ?_) <;> (try rw [List.length_map] at hb) <;> (try (exfalso; omega; done)) | refine s4 nm ?_ | fail)
      all_goals first
        | (exfalso; subst ht; contradiction)
        | (exfalso; simp_all; done)
        | exact ⟨i + 1, Le.of (by (repeat' (first | exact trivial | refine And.intro ?_ ?_ | exact Or.inl rfl | fail))) (by (repeat' (first | exact trivial | fail))) rfl rfl rfl, by omega, by omega⟩
    · refine code_sound (more := more8 false _ _) more8_ok FOK.wide _ ?_
      repeat' ((try conv => whnf); first | (first | refine k3 (fun hb => ?_) fun hb => ?_ | refine k4 (fun hb => ?_) fun hb => ?_) <;> (try rw [List.length_map] at hb) <;> (try (exfalso; omega; done)) | fail)
      exact PSub.of_eq (congrArg (fun b => PV.val (.bool b)) (decide_eq_true (by omega)))
end Go.Proofs.Ytinhhmnnfbeimaa
/- Facts: the law FactsPast. Conditions: none. -/
namespace Go.Proofs.Ytinhhmnnfbeimaa
open Go.Avc
theorem ptsF_abt {l m : List Fa} {k : Ky} {lo hi b a : Int} (h : abtF l k b = abtF m k a) : ptsF l k lo hi b = ptsF m k lo hi a := by
  unfold ptsF
  exact ptsN_iff.2 fun i _ => atF_abt h
theorem chF_sz (l : List Fa) (b a : Int) : (chF l b a).length ≤ l.length ∧ ∀ x ∈ chF l b a, x.2.length ≤ 1000000 := by
  refine ⟨?_, fun x hx => ?_⟩
  · have h1 := chL_len l b a (keysF l)
    have h2 := keysF_len l
    unfold chF
    omega
  · have := ((chF_mem x).1 hx).1
    have h1 := spN_len (difT l x.1 b a) 1024
    rw [this, ddF_eq]
    omega
set_option maxRecDepth 20000
set_option maxHeartbeats 4000000
set_option linter.unusedSimpArgs false
attribute [local irreducible] PSub Wp PSpec Le Need Both
attribute [local irreducible] atF addF chF chkF ptsF alikeF uptoF
theorem past_law (l : List Fa) (hl : l.length ≤ 140737488355328) (more : List Fa) (hm : more.length ≤ 140737488355328) (k : Ky) (day kn : Int) : PSpec Try.prog 6 [encFs l, encFs more, .agg (encKy k), .int day, .int kn] (.bool true) := by
  obtain ⟨t, ht⟩ : ∃ t : Bool, t = true := ⟨_, rfl⟩
  have q0 := sane_spec
  rw [← ht] at q0
  have hlm : (l.map encFa).length = l.length := List.length_map ..
  have hmm : (more.map encFa).length = more.length := List.length_map ..
  by_cases hfew : l.length ≤ 10 ∧ more.length ≤ 6 ∧ 0 ≤ kn
  case neg =>
    refine PSpec.of_vc (fun Γ => more8 false Γ.P Γ.fx) (fun Γ => more8_ok) Try.func6 rfl Try.call6 (by simp) ?_
    rintro ⟨P, N, w0, X, β0, fx, y, hy, pk, df⟩ rfl rfl rfl hoff rfl; change y.on = false at hoff
    skip
    refine .inl ⟨_, q0, ?_⟩
    repeat' ((try conv => whnf); first | (first | refine k3 (fun hb => ?_) fun hb => ?_ | refine k4 (fun hb => ?_) fun hb => ?_) <;> (try rw [List.length_map] at hb) <;> (try (exfalso; omega; done)) | refine k5 (fun hb => ?_) fun hb => ?_ | fail)
    all_goals first
      | (exfalso; subst ht; contradiction)
      | (exfalso; simp_all; done)
      | skip
    all_goals exact PSub.refl _
  obtain ⟨hf1, hf2, hf3⟩ := hfew
  refine PSpec.of_vc (fun Γ => more8 false Γ.P Γ.fx) (fun Γ => more8_ok) Try.func6 rfl Try.call6 (by simp) ?_
  rintro ⟨P, N, w0, X, β0, fx, y, hy, pk, df⟩ rfl rfl rfl hoff rfl; change y.on = false at hoff
  skip
  refine .inl ⟨_, q0, ?_⟩
  repeat' ((try conv => whnf); first | (first | refine k3 (fun hb => ?_) fun hb => ?_ | refine k4 (fun hb => ?_) fun hb => ?_) <;> (try rw [List.length_map] at hb) <;> (try (exfalso; omega; done)) | refine k5 (fun hb => ?_) fun hb => ?_ | fail)
  all_goals first
    | (exfalso; subst ht; contradiction)
    | (exfalso; simp_all; done)
    | skip
  refine Wp.loop (fun i : Nat => ⟨[(0, .pure (encFs l)), (1, .pure (encFs more)), (3, .int day), (4, .int kn), (7, .loc 7 0 0), (11, .int i)], [(7, some (.box (pures (encKy k))))], [7]⟩) (fun i => i ≤ more.length ∧ ∀ j (h : j < more.length), j < i → kn < more[j].known) (fun i => more.length - i) 0 (Le.of ?_ ?_ rfl rfl rfl) ⟨Nat.zero_le _, fun j _ h => absurd h (Nat.not_lt_zero _)⟩ ?_
  · (repeat' (first | exact trivial | refine And.intro ?_ ?_ | exact Or.inl rfl | fail))
  · (repeat' (first | exact trivial | refine And.intro ?_ ?_ | refine Exists.intro _ (And.intro rfl ?_) | exact Or.inl rfl | fail))
  intro i ⟨hi, hgood⟩
  by_cases hi2 : i < more.length
  · refine code_sound (more := more8 false _ _) more8_ok FOK.wide _ ?_
    repeat' ((try conv => whnf); first | (first | refine k3 (fun hb => ?_) fun hb => ?_ | refine k4 (fun hb => ?_) fun hb => ?_) <;> (try rw [List.length_map] at hb) <;> (try (exfalso; omega; done)) | refine s4 nm ?_ | refine s5 nm nm ?_ | fail)
    · exact PSub.refl _
    · refine ⟨i + 1, Le.of (by (repeat' (first | exact trivial | refine And.intro ?_ ?_ | exact Or.inl rfl | fail))) (by (repeat' (first | exact trivial | refine And.intro ?_ ?_ | refine Exists.intro _ (And.intro rfl ?_) | exact Or.inl rfl | fail))) rfl rfl rfl, ⟨by omega, fun j hj hji => ?_⟩, by omega⟩
      by_cases e : j = i
      · subst e; omega
      · exact hgood j hj (by omega)
  · have hall : ∀ f ∈ more, kn < f.known := fun f hf => by
      obtain ⟨j, hj, rfl⟩ := List.getElem_of_mem hf
      exact hgood j hj (by omega)
    clear hgood
    have hxa : ∀ k b, b ≤ kn → abtF (l ++ more) k b = abtF l k b := fun k b hb => abtF_more hall hb k
    have hxu := uptoF_more (l := l) hall
    obtain ⟨x, hx⟩ : ∃ x, x = l ++ more := ⟨_, rfl⟩
    have hxl : x.length = l.length + more.length := by rw [hx]; simp
    have hxm : (x.map encFa).length = x.length := List.length_map ..
    refine code_sound (more := more8 false _ _) more8_ok FOK.wide _ ?_
    repeat' ((try conv => whnf); first | (first | refine k3 (fun hb => ?_) fun hb => ?_ | refine k4 (fun hb => ?_) fun hb => ?_) <;> (try rw [List.length_map] at hb) <;> (try (exfalso; omega; done)) | refine And.intro rfl ?_ | refine And.intro bd ?_ | fail)
    show Wp _ _ _ _ _ _
    refine Wp.le (Le.frz 51 rfl) ?_
    refine Wp.loop (fun j : Nat => ⟨[(0, .pure (encFs l)), (3, .int day), (4, .int kn), (12, .pure (encFs x)), (13, .lsl 53 0 (k :: (x.take j).map Fa.key).length), (14, .int j)], [(53, some (.row 3 ((k :: (x.take j).map Fa.key).map encKy)))], [53]⟩) (fun j => j ≤ x.length) (fun j => x.length - j) 0 (Le.of ?_ ?_ rfl rfl rfl) (Nat.zero_le _) ?_
    · (repeat' (first | exact trivial | refine And.intro ?_ ?_ | exact Or.inl rfl | fail))
      all_goals
        refine SubA.sl ?_
        rw [hx, List.map_append, List.drop_zero, List.take_of_length_le (by simp)]
        rfl
    · (repeat' (first | exact trivial | exact rfl | refine And.intro ?_ ?_ | fail))
    intro j hj
    by_cases hj2 : j < x.length
    · have hst : (x.take (j + 1)).map Fa.key = (x.take j).map Fa.key ++ [x[j].key] := by rw [List.take_succ_eq_append_getElem hj2, List.map_append]; rfl
      have hkl : (k :: (x.take j).map Fa.key).length = j + 1 := by simp; omega
      obtain ⟨K, hK⟩ : ∃ K, K = (x.take j).map Fa.key := ⟨_, rfl⟩
      rw [← hK] at hst hkl ⊢
      have hKl : K.length = j := by simpa using hkl
      have hKm : ((k :: K).map encKy).length = j + 1 := by rw [List.length_map]; exact hkl
      refine code_sound (more := more8 false _ _) more8_ok FOK.wide _ ?_
      repeat' ((try conv => whnf); first | (first | refine k3 (fun hb => ?_) fun hb => ?_ | refine k4 (fun hb => ?_) fun hb => ?_) <;> (try rw [List.length_map] at hb) <;> (try (exfalso; omega; done)) | refine s4 nm ?_ | refine s5 nm nm ?_ | refine And.intro bd ?_ | fail)
      refine ⟨j + 1, Le.map [(53, 67)] ?_ ?_ rfl rfl rfl rfl, by omega, by omega⟩
      · rw [hst]; (repeat' (first | exact trivial | refine And.intro ?_ ?_ | exact Or.inl rfl | exact SubA.lsl ls | fail))
      · rw [hst]
        (repeat' (first | exact trivial | refine And.intro ?_ ?_ | fail))
        all_goals first
          | (refine SubA.lsl ?_; focus (simp; done))
          | (refine rowEq ?_; focus (simp; done))
          | (refine rowEq ?_; focus (rw [← List.cons_append, List.map_append]; rfl))
    · have ej : j = x.length := by omega
      subst ej
      rw [List.take_of_length_le (Nat.le_refl _)]
      refine code_sound (more := more8 false _ _) more8_ok FOK.wide _ ?_
      repeat' ((try conv => whnf); first | (first | refine k3 (fun hb => ?_) fun hb => ?_ | refine k4 (fun hb => ?_) fun hb => ?_) <;> (try rw [List.length_map] at hb) <;> (try (exfalso; omega; done)) | fail)
      have hksl : (k :: x.map Fa.key).length ≤ 20 := by simp; omega
      show Wp _ _ _ _ _ _
      refine Wp.le (Le.frz 53 rfl) ?_
      refine Wp.loop (fun i : Nat => ⟨[(0, .pure (encFs l)), (3, .int day), (4, .int kn), (12, .pure (encFs x)), (13, .pure (encKs (k :: x.map Fa.key))), (15, .int i)], [], []⟩) (fun i => i ≤ (k :: x.map Fa.key).length) (fun i => (k :: x.map Fa.key).length - i) 0 (Le.of ?_ ?_ rfl rfl rfl) (Nat.zero_le _) ?_
      · (repeat' (first | exact trivial | refine And.intro ?_ ?_ | exact Or.inl rfl | fail))
        all_goals
          refine SubA.sl ?_
          rw [List.drop_zero, List.take_of_length_le (by simp)]
      · (repeat' (first | exact trivial | fail))
      generalize k :: x.map Fa.key = ks at hksl ⊢
      have hkm : (ks.map encKy).length = ks.length := List.length_map ..
      intro i hik
      by_cases hi2 : i < ks.length
      · have p1 := at_spec l ks[i] day kn (by omega)
        have p2 := at_spec x ks[i] day kn (by omega)
        have p3 := points_spec l ks[i] 0 40 kn (by omega)
        have p4 := points_spec x ks[i] 0 40 kn (by omega)
        have hax := hxa ks[i] kn (Int.le_refl _)
        rw [← hx] at hax
        rw [atF_abt hax] at p2
        rw [ptsF_abt hax] at p4
        have hpl := ptsF_len l ks[i] 0 40 kn
        obtain ⟨⟨v, o⟩, hy⟩ : ∃ x, x = atF l ks[i] day kn := ⟨_, rfl⟩
        obtain ⟨p, hp⟩ : ∃ x, x = ptsF l ks[i] 0 40 kn := ⟨_, rfl⟩
        rw [← hy] at p1 p2
        rw [← hp] at p3 p4 hpl
        have p5 := sameP_spec p p (by omega) (by omega)
        rw [tEq ht rfl] at p5
        refine code_sound (more := more8 false _ _) more8_ok FOK.wide _ ?_
        repeat' ((try conv => whnf); first | (first | refine k3 (fun hb => ?_) fun hb => ?_ | refine k4 (fun hb => ?_) fun hb => ?_) <;> (try rw [List.length_map] at hb) <;> (try (exfalso; omega; done)) | refine s5 nm nm ?_ | fail)
        refine .inl ⟨_, p1, ?_⟩
        repeat' ((try conv => whnf); first | refine s5 nm nm ?_ | fail)
        refine .inl ⟨_, p2, ?_⟩
        skip
        refine Wp.draw (more := more8 true _ _) more8_det more8_ok FOK.wide rfl (by decide +kernel) (by conv => lhs; reduce) ?_
        repeat' ((try conv => whnf); first | refine k1 (fun hb => ?_) fun hb => ?_ | (first | refine k3 (fun hb => ?_) fun hb => ?_ | refine k4 (fun hb => ?_) fun hb => ?_) <;> (try rw [List.length_map] at hb) <;> (try (exfalso; omega; done)) | refine s5 nm nm ?_ | fail)
        refine ⟨_, p3, ?_⟩
        repeat' ((try conv => whnf); first | refine And.intro rfl ?_ | refine s5 nm nm ?_ | fail)
        refine ⟨_, p4, ?_⟩
        repeat' ((try conv => whnf); first | refine And.intro rfl ?_ | fail)
        refine ⟨_, p5, ?_⟩
        repeat' ((try conv => whnf); first | refine k5 (fun hb => ?_) fun hb => ?_ | refine s4 nm ?_ | fail)
        all_goals first
          | (exfalso; subst ht; contradiction)
          | (exfalso; simp_all; done)
          | exact ⟨i + 1, Le.of (by (repeat' (first | exact trivial | refine And.intro ?_ ?_ | exact Or.inl rfl | fail))) (by (repeat' (first | exact trivial | fail))) rfl rfl rfl, by omega, by omega⟩
      · have u1 := upto_spec x kn (by omega)
        have u2 := upto_spec l kn (by omega)
        rw [hx, hxu, ← hx] at u1
        have c1 := changed_spec x 0 kn (by omega)
        have c2 := changed_spec l 0 kn (by omega)
        have hce : chF x 0 kn = chF l 0 kn := chF_abt fun k => by rw [hx]; exact ⟨hxa k 0 hf3, hxa k kn (Int.le_refl _)⟩
        rw [hce] at c1
        have hul := upto_len l kn
        obtain ⟨hc1, hc2⟩ := chF_sz l 0 kn
        obtain ⟨u, hu⟩ : ∃ u, u = uptoF l kn := ⟨_, rfl⟩
        obtain ⟨c, hc⟩ : ∃ c, c = chF l 0 kn := ⟨_, rfl⟩
        rw [← hu] at u1 u2 hul
        rw [← hc] at c1 c2 hc1 hc2
        have s1' := sameF_spec u u (by omega) (by omega)
        have s2' := sameD_spec c c (by omega) (by omega) hc2 hc2
        rw [tEq ht rfl] at s1' s2'
        refine code_sound (more := more8 false _ _) more8_ok FOK.wide _ ?_
        repeat' ((try conv => whnf); first | (first | refine k3 (fun hb => ?_) fun hb => ?_ | refine k4 (fun hb => ?_) fun hb => ?_) <;> (try rw [List.length_map] at hb) <;> (try (exfalso; omega; done)) | fail)
        refine .inl ⟨_, u1, ?_⟩
        repeat' ((try conv => whnf); first | refine And.intro rfl ?_ | fail)
        refine .inl ⟨_, u2, ?_⟩
        repeat' ((try conv => whnf); first | refine And.intro rfl ?_ | fail)
        refine .inl ⟨_, s1', ?_⟩
        repeat' ((try conv => whnf); first | refine k6 (fun hb => ?_) fun hb => ?_ | fail)
        all_goals first
          | (exfalso; subst ht; contradiction)
          | (exfalso; simp_all; done)
          | skip
        refine .inl ⟨_, c1, ?_⟩
        repeat' ((try conv => whnf); first | refine And.intro rfl ?_ | fail)
        refine .inl ⟨_, c2, ?_⟩
        repeat' ((try conv => whnf); first | refine And.intro rfl ?_ | fail)
        refine .inl ⟨_, s2', ?_⟩
        skip
        exact PSub.of_eq (by rw [ht])
end Go.Proofs.Ytinhhmnnfbeimaa
