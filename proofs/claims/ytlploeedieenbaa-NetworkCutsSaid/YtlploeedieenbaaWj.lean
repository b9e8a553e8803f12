/- Networks: the law NetworkCuts. Conditions: none. -/
import Derived.Test.YtlploeedieenbaaWd
import Derived.Test.YtlploeedieenbaaWi
set_option linter.unusedSimpArgs false
set_option linter.unusedVariables false
namespace Go.Proofs.Ytlploeedieenbaa
open Go.Avc
/-- What a cut and a mended link deliver. -/
theorem cuts_plain {ap : List (Int × Int)} (hap : ApOK ap ap.length) {a b : Int} (hd : Diff a b) {q : Pk} (hq : q.ok) {P Q : Pk} (hP : P = if pairOf q.src q.dst ∈ cutL ap (pairOf a b) true then zeroPk else q) (hQ : Q = if pairOf q.src q.dst ∈ cutL ap (pairOf a b) false then zeroPk else q) :
    ((Q.src = a ∧ Q.dst = b ∨ Q.src = b ∧ Q.dst = a) → P = zeroPk) ∧ (¬ (Q.src = a ∧ Q.dst = b ∨ Q.src = b ∧ Q.dst = a) → (P = zeroPk ↔ Q = zeroPk) ∧ P = Q) := by
  have hpo := pairOf_ok hd
  have m1 : pairOf q.src q.dst ∈ cutL ap (pairOf a b) true ↔ _ := mem_cutL hap hpo
  have m2 : pairOf q.src q.dst ∈ cutL ap (pairOf a b) false ↔ _ := mem_cutL hap hpo
  have hq1 := hq.1
  by_cases h1 : pairOf q.src q.dst = pairOf a b
  · rw [if_pos h1] at m1 m2
    rw [if_pos (m1.2 rfl)] at hP
    rw [if_neg (fun h => by have := m2.1 h; cases this)] at hQ
    subst hP; subst hQ
    refine ⟨fun _ => rfl, fun h => absurd ?_ h⟩
    unfold pairOf at h1
    simp only [Prod.mk.injEq] at h1
    unfold Diff at hd hq1
    omega
  · rw [if_neg h1] at m1 m2
    by_cases h2 : pairOf q.src q.dst ∈ ap
    · rw [if_pos (m1.2 h2)] at hP
      rw [if_pos (m2.2 h2)] at hQ
      exact ⟨fun _ => hP, fun _ => ⟨by rw [hP, hQ], by rw [hP, hQ]⟩⟩
    · rw [if_neg (fun h => h2 (m1.1 h))] at hP
      rw [if_neg (fun h => h2 (m2.1 h))] at hQ
      refine ⟨fun h => ?_, fun _ => ⟨by rw [hP, hQ], by rw [hP, hQ]⟩⟩
      rw [hQ] at h
      exfalso
      apply h1
      unfold pairOf
      rcases h with ⟨rfl, rfl⟩ | ⟨rfl, rfl⟩
      · rfl
      · rw [Int.min_comm, Int.max_comm]
set_option maxRecDepth 20000
set_option maxHeartbeats 4000000
set_option linter.unusedSimpArgs false
attribute [local irreducible] PSub Wp PSpec Le Need Both
theorem cuts_law (n : Nt) (a b : Int) (m : Nat) : PSpec Try.prog 7 [encN n, .int a, .int b, .val (.int .u64 (m : Int))] (.bool true) := by
  obtain ⟨t, ht⟩ : ∃ t : Bool, t = true := ⟨_, rfl⟩
  obtain ⟨z, hz⟩ : ∃ z : Int, z = 0 := ⟨_, rfl⟩
  obtain ⟨o, ho⟩ : ∃ o : Int, o = 1 := ⟨_, rfl⟩
  have q0 := sane_spec
  rw [← ht] at q0
  have qf := few_spec n
  obtain ⟨f, hf⟩ : ∃ f, f = fewN n := ⟨_, rfl⟩
  rw [← hf] at qf
  by_cases hall : f = true ∧ n.ok
  case neg =>
    have qc := fun h : f = true => check_spec n (by have := few_of (hf ▸ h); omega) (by have := few_of (hf ▸ h); omega)
    obtain ⟨c, hc⟩ : ∃ c, c = n.check := ⟨_, rfl⟩
    rw [← hc] at qc
    refine PSpec.of_vc (fun Γ => more7 false Γ.P Γ.fx) (fun Γ => more7_ok) Try.func7 rfl Try.call7 (by simp) ?_
    rintro ⟨P, N, w0, X, β0, fx, y, hy, pk, df⟩ rfl rfl rfl hoff rfl; change y.on = false at hoff
    skip
    refine .inl ⟨_, q0, ?_⟩
    repeat' ((try conv => whnf); first | refine k5 (fun hb => ?_) fun hb => ?_ | fail)
    · refine .inl ⟨_, qf, ?_⟩
      repeat' ((try conv => whnf); first | refine k5 (fun hb => ?_) fun hb => ?_ | fail)
      · refine .inl ⟨_, qc (by assumption), ?_⟩
        repeat' ((try conv => whnf); first | (first | refine k3 (fun hb => ?_) fun hb => ?_ | refine k4 (fun hb => ?_) fun hb => ?_) <;> (try rw [List.length_map] at hb) <;> (try (exfalso; omega; done)) | fail)
        all_goals first
          | exact PSub.refl _
          | exact PSub.val_bool ht
          | (exfalso; subst ht; contradiction)
          | (exfalso; omega)
          | (exfalso; simp only [List.length_map] at *; omega)
          | skip
        exfalso
        exact hall ⟨by assumption, Nt.ok_of (by rw [← hc]; assumption)⟩
      all_goals first
        | exact PSub.refl _
        | exact PSub.val_bool ht
        | (exfalso; subst ht; contradiction)
        | (exfalso; omega)
        | (exfalso; simp only [List.length_map] at *; omega)
    all_goals first
      | exact PSub.refl _
      | exact PSub.val_bool ht
      | (exfalso; subst ht; contradiction)
      | (exfalso; omega)
      | (exfalso; simp only [List.length_map] at *; omega)
  obtain ⟨hf1, hok⟩ := hall
  have hl := few_of (hf ▸ hf1)
  have hle : n.le 40 := ⟨hl.1, by omega⟩
  rw [hf1, ← ht] at qf
  have qc := check_spec n (by omega) (by omega)
  rw [Nt.check_ok hok, ← hz] at qc
  by_cases hd : Diff a b
  case neg =>
    have q1 := ptup2 (cut_spec n a b true (by omega) (by omega)) (n := zeroN) (e := 1) (by unfold Nt.cut; rw [if_pos (Nt.check_ok hok), if_neg hd]) ho
    refine PSpec.of_vc (fun Γ => more7 false Γ.P Γ.fx) (fun Γ => more7_ok) Try.func7 rfl Try.call7 (by simp) ?_
    rintro ⟨P, N, w0, X, β0, fx, y, hy, pk, df⟩ rfl rfl rfl hoff rfl; change y.on = false at hoff
    skip
    refine .inl ⟨_, q0, ?_⟩
    repeat' ((try conv => whnf); first | refine k5 (fun hb => ?_) fun hb => ?_ | fail)
    · refine .inl ⟨_, qf, ?_⟩
      repeat' ((try conv => whnf); first | refine k5 (fun hb => ?_) fun hb => ?_ | fail)
      · refine .inl ⟨_, qc, ?_⟩
        repeat' ((try conv => whnf); first | (first | refine k3 (fun hb => ?_) fun hb => ?_ | refine k4 (fun hb => ?_) fun hb => ?_) <;> (try rw [List.length_map] at hb) <;> (try (exfalso; omega; done)) | fail)
        · refine .inl ⟨_, q1, ?_⟩
          repeat' ((try conv => whnf); first | (first | refine k3 (fun hb => ?_) fun hb => ?_ | refine k4 (fun hb => ?_) fun hb => ?_) <;> (try rw [List.length_map] at hb) <;> (try (exfalso; omega; done)) | refine And.intro rfl ?_ | fail)
          all_goals first
            | exact PSub.refl _
            | exact PSub.val_bool ht
            | (exfalso; subst ht; contradiction)
            | (exfalso; omega)
            | (exfalso; simp only [List.length_map] at *; omega)
            | skip
          exact PSub.val_bool (decide_eq_true ho)
        all_goals first
          | exact PSub.refl _
          | exact PSub.val_bool ht
          | (exfalso; subst ht; contradiction)
          | (exfalso; omega)
          | (exfalso; simp only [List.length_map] at *; omega)
      all_goals first
        | exact PSub.refl _
        | exact PSub.val_bool ht
        | (exfalso; subst ht; contradiction)
        | (exfalso; omega)
        | (exfalso; simp only [List.length_map] at *; omega)
    all_goals first
      | exact PSub.refl _
      | exact PSub.val_bool ht
      | (exfalso; subst ht; contradiction)
      | (exfalso; omega)
      | (exfalso; simp only [List.length_map] at *; omega)
  obtain ⟨X, hX⟩ : ∃ X : Nt, X = ⟨n.queue, cutL n.apart (pairOf a b) true⟩ := ⟨_, rfl⟩
  obtain ⟨K, hK⟩ : ∃ K : Nt, K = ⟨n.queue, cutL n.apart (pairOf a b) false⟩ := ⟨_, rfl⟩
  have hXok : X.ok := hX ▸ ok_cut hok _ _
  have hKok : K.ok := hK ▸ ok_cut hok _ _
  have hXq : X.queue = n.queue := by rw [hX]
  have hKq : K.queue = n.queue := by rw [hK]
  have hpo := pairOf_ok hd
  have hXle : X.le 40 := by
    have := cut_le hle a b true
    rw [cut_of hok hd, ← hX] at this; exact this
  have hKle : K.le 40 := by
    have := cut_le hle a b false
    rw [cut_of hok hd, ← hK] at this; exact this
  have hlen : X.apart.length = K.apart.length + 1 := by rw [hX, hK]; exact cutL_len hok.2.2 hpo
  have hKl : K.apart.length ≤ 340 := hKle.2
  have q1 := ptup2 (cut_spec n a b true (by omega) (by omega)) (by rw [cut_of hok hd, ← hX]) hz
  have q2 := ptup2 (cut_spec n b a true (by omega) (by omega)) (by rw [cut_of hok (diff_comm hd), pairOf_comm, ← hX]) hz
  have q3 := ptup2 (cut_spec X a b true (by have := hXle.1; omega) (by have := hXle.2; omega)) (n := X) (by rw [cut_of hXok hd, hX]; simp only; rw [cutL_cutL hok.2.2 hpo]) hz
  have q4 := ptup2 (cut_spec X b a false (by have := hXle.1; omega) (by have := hXle.2; omega)) (n := K) (by rw [cut_of hXok (diff_comm hd), hX, hK, pairOf_comm b a]; simp only; rw [cutL_cutL hok.2.2 hpo]) hz
  have q5 := ptup2 (cut_spec n a b false (by omega) (by omega)) (by rw [cut_of hok hd, ← hK]) hz
  have q6 := same_self X (hXle.mono (by omega)) ht
  have q7 := same_self K (hKle.mono (by omega)) ht
  by_cases hpos : 0 < n.queue.length
  case neg =>
    refine PSpec.of_vc (fun Γ => more7 false Γ.P Γ.fx) (fun Γ => more7_ok) Try.func7 rfl Try.call7 (by simp) ?_
    rintro ⟨P, N, w0, X, β0, fx, y, hy, pk, df⟩ rfl rfl rfl hoff rfl; change y.on = false at hoff
    skip
    refine .inl ⟨_, q0, ?_⟩
    repeat' ((try conv => whnf); first | refine k5 (fun hb => ?_) fun hb => ?_ | fail)
    refine .inl ⟨_, qf, ?_⟩
    repeat' ((try conv => whnf); first | refine k5 (fun hb => ?_) fun hb => ?_ | fail)
    refine .inl ⟨_, qc, ?_⟩
    repeat' ((try conv => whnf); first | (first | refine k3 (fun hb => ?_) fun hb => ?_ | refine k4 (fun hb => ?_) fun hb => ?_) <;> (try rw [List.length_map] at hb) <;> (try (exfalso; omega; done)) | fail)
    refine .inl ⟨_, q1, ?_⟩
    repeat' ((try conv => whnf); first | (first | refine k3 (fun hb => ?_) fun hb => ?_ | refine k4 (fun hb => ?_) fun hb => ?_) <;> (try rw [List.length_map] at hb) <;> (try (exfalso; omega; done)) | refine And.intro rfl ?_ | fail)
    refine .inl ⟨_, q2, ?_⟩
    repeat' ((try conv => whnf); first | refine And.intro rfl ?_ | fail)
    refine .inl ⟨_, q3, ?_⟩
    repeat' ((try conv => whnf); first | refine And.intro rfl ?_ | fail)
    refine .inl ⟨_, q4, ?_⟩
    repeat' ((try conv => whnf); first | refine And.intro rfl ?_ | fail)
    refine .inl ⟨_, q5, ?_⟩
    repeat' ((try conv => whnf); first | (first | refine k3 (fun hb => ?_) fun hb => ?_ | refine k4 (fun hb => ?_) fun hb => ?_) <;> (try rw [List.length_map] at hb) <;> (try (exfalso; omega; done)) | refine And.intro rfl ?_ | fail)
    refine .inl ⟨_, q6, ?_⟩
    repeat' ((try conv => whnf); first | refine k5 (fun hb => ?_) fun hb => ?_ | fail)
    · refine .inl ⟨_, q6, ?_⟩
      repeat' ((try conv => whnf); first | refine k5 (fun hb => ?_) fun hb => ?_ | fail)
      · refine .inl ⟨_, q7, ?_⟩
        repeat' ((try conv => whnf); first | (first | refine k3 (fun hb => ?_) fun hb => ?_ | refine k4 (fun hb => ?_) fun hb => ?_) <;> (try rw [List.length_map] at hb) <;> (try (exfalso; omega; done)) | refine k5 (fun hb => ?_) fun hb => ?_ | refine s4 nm ?_ | fail)
        all_goals first
          | exact PSub.refl _
          | exact PSub.val_bool ht
          | (exfalso; subst ht; contradiction)
          | (exfalso; omega)
          | (exfalso; simp only [List.length_map] at *; omega)
      all_goals first
        | exact PSub.refl _
        | exact PSub.val_bool ht
        | (exfalso; subst ht; contradiction)
        | (exfalso; omega)
        | (exfalso; simp only [List.length_map] at *; omega)
    all_goals first
      | exact PSub.refl _
      | exact PSub.val_bool ht
      | (exfalso; subst ht; contradiction)
      | (exfalso; omega)
      | (exfalso; simp only [List.length_map] at *; omega)
  obtain ⟨i, hi⟩ : ∃ i, i = m % n.queue.length := ⟨_, rfl⟩
  have hil : i < n.queue.length := by rw [hi]; exact Nat.mod_lt _ hpos
  have hqo : n.queue[i].ok := hok.2.1 _ (List.getElem_mem hil)
  obtain ⟨P, hP⟩ : ∃ P : Pk, P = if pairOf n.queue[i].src n.queue[i].dst ∈ cutL n.apart (pairOf a b) true then zeroPk else n.queue[i] := ⟨_, rfl⟩
  obtain ⟨Q, hQ⟩ : ∃ Q : Pk, Q = if pairOf n.queue[i].src n.queue[i].dst ∈ cutL n.apart (pairOf a b) false then zeroPk else n.queue[i] := ⟨_, rfl⟩
  obtain ⟨pl1, pl2⟩ := cuts_plain hok.2.2 hd hqo hP hQ
  obtain ⟨X', hX'⟩ : ∃ Y : Nt, Y = ⟨X.queue.eraseIdx i, X.apart⟩ := ⟨_, rfl⟩
  obtain ⟨K', hK'⟩ : ∃ Y : Nt, Y = ⟨K.queue.eraseIdx i, K.apart⟩ := ⟨_, rfl⟩
  have q8 := ptup3 (deliver_spec X i (by have := hXle.1; omega) (by have := hXle.2; omega)) (p := P) (n := X') (by rw [deliver_of hXok (by rw [hXq]; exact hil), hP, hX']; simp only [hX]) hz
  have q9 := ptup3 (deliver_spec K i (by have := hKle.1; omega) (by have := hKle.2; omega)) (p := Q) (n := K') (by rw [deliver_of hKok (by rw [hKq]; exact hil), hQ, hK']; simp only [hK]) hz
  have s1 := samePk_spec P zeroPk
  have s2 := samePk_spec Q zeroPk
  have s3 := samePk_spec P Q
  obtain ⟨b1, hb1⟩ : ∃ b1, b1 = decide (P = zeroPk) := ⟨_, rfl⟩
  obtain ⟨b2, hb2⟩ : ∃ b2, b2 = decide (Q = zeroPk) := ⟨_, rfl⟩
  obtain ⟨b3, hb3⟩ : ∃ b3, b3 = decide (P = Q) := ⟨_, rfl⟩
  have f1 : (Q.src = a ∧ Q.dst = b ∨ Q.src = b ∧ Q.dst = a) → b1 = true := fun h => by rw [hb1]; exact decide_eq_true (pl1 h)
  have f2 : ¬ (Q.src = a ∧ Q.dst = b ∨ Q.src = b ∧ Q.dst = a) → b1 = b2 ∧ b3 = true := fun h => ⟨by rw [hb1, hb2]; exact decide_eq_decide.2 (pl2 h).1, by rw [hb3]; exact decide_eq_true (pl2 h).2⟩
  rw [← hb1] at s1
  rw [← hb2] at s2
  rw [← hb3] at s3
  have zsub : ∀ p : Pk, SubL [.agg (encPk p), .agg [.val (.int .i64 0), .val (.int .i64 0), .val (.slice none 0 0)]] [.agg (encPk p), .agg (encPk zeroPk)] := fun p => ⟨PSub.refl _, zeroPk_sub, trivial⟩
  have s1' := PSpec.args s1 (zsub P)
  have s2' := PSpec.args s2 (zsub Q)
  refine PSpec.of_vc (fun Γ => more7 false Γ.P Γ.fx) (fun Γ => more7_ok) Try.func7 rfl Try.call7 (by simp) ?_
  rintro ⟨P, N, w0, X, β0, fx, y, hy, pk, df⟩ rfl rfl rfl hoff rfl; change y.on = false at hoff
  skip
  refine .inl ⟨_, q0, ?_⟩
  repeat' ((try conv => whnf); first | refine k5 (fun hb => ?_) fun hb => ?_ | fail)
  refine .inl ⟨_, qf, ?_⟩
  repeat' ((try conv => whnf); first | refine k5 (fun hb => ?_) fun hb => ?_ | fail)
  refine .inl ⟨_, qc, ?_⟩
  repeat' ((try conv => whnf); first | (first | refine k3 (fun hb => ?_) fun hb => ?_ | refine k4 (fun hb => ?_) fun hb => ?_) <;> (try rw [List.length_map] at hb) <;> (try (exfalso; omega; done)) | fail)
  refine .inl ⟨_, q1, ?_⟩
  repeat' ((try conv => whnf); first | (first | refine k3 (fun hb => ?_) fun hb => ?_ | refine k4 (fun hb => ?_) fun hb => ?_) <;> (try rw [List.length_map] at hb) <;> (try (exfalso; omega; done)) | refine And.intro rfl ?_ | fail)
  refine .inl ⟨_, q2, ?_⟩
  repeat' ((try conv => whnf); first | refine And.intro rfl ?_ | fail)
  refine .inl ⟨_, q3, ?_⟩
  repeat' ((try conv => whnf); first | refine And.intro rfl ?_ | fail)
  refine .inl ⟨_, q4, ?_⟩
  repeat' ((try conv => whnf); first | refine And.intro rfl ?_ | fail)
  refine .inl ⟨_, q5, ?_⟩
  repeat' ((try conv => whnf); first | (first | refine k3 (fun hb => ?_) fun hb => ?_ | refine k4 (fun hb => ?_) fun hb => ?_) <;> (try rw [List.length_map] at hb) <;> (try (exfalso; omega; done)) | refine And.intro rfl ?_ | fail)
  refine .inl ⟨_, q6, ?_⟩
  repeat' ((try conv => whnf); first | refine k5 (fun hb => ?_) fun hb => ?_ | fail)
  · refine .inl ⟨_, q6, ?_⟩
    repeat' ((try conv => whnf); first | refine k5 (fun hb => ?_) fun hb => ?_ | fail)
    · refine .inl ⟨_, q7, ?_⟩
      repeat' ((try conv => whnf); first | (first | refine k3 (fun hb => ?_) fun hb => ?_ | refine k4 (fun hb => ?_) fun hb => ?_) <;> (try rw [List.length_map] at hb) <;> (try (exfalso; omega; done)) | refine k5 (fun hb => ?_) fun hb => ?_ | refine s4 nm ?_ | fail)
      all_goals first
        | exact PSub.refl _
        | exact PSub.val_bool ht
        | (exfalso; subst ht; contradiction)
        | (exfalso; omega)
        | (exfalso; simp only [List.length_map] at *; omega)
        | skip
      refine ⟨(n.queue.length : Int), by rw [List.length_map]; exact wrapU (by omega), ?_⟩
      repeat' ((try conv => whnf); first | refine And.intro bd ?_ | fail)
      refine ⟨(i : Int), modU hi, ?_⟩
      repeat' ((try conv => whnf); first | refine s4 nm ?_ | fail)
      refine .inl ⟨_, q8, ?_⟩
      repeat' ((try conv => whnf); first | refine And.intro rfl ?_ | fail)
      refine .inl ⟨_, q9, ?_⟩
      repeat' ((try conv => whnf); first | (first | refine k3 (fun hb => ?_) fun hb => ?_ | refine k4 (fun hb => ?_) fun hb => ?_) <;> (try rw [List.length_map] at hb) <;> (try (exfalso; omega; done)) | refine And.intro rfl ?_ | fail)
      all_goals refine .inl ⟨_, s1', ?_⟩
      all_goals repeat' ((try conv => whnf); first | refine k2 (fun hb => ?_) fun hb => ?_ | (first | refine k3 (fun hb => ?_) fun hb => ?_ | refine k4 (fun hb => ?_) fun hb => ?_) <;> (try rw [List.length_map] at hb) <;> (try (exfalso; omega; done)) | fail)
      all_goals first | refine .inl ⟨_, s2', ?_⟩ | skip
      all_goals repeat' ((try conv => whnf); first | refine k2 (fun hb => ?_) fun hb => ?_ | (first | refine k3 (fun hb => ?_) fun hb => ?_ | refine k4 (fun hb => ?_) fun hb => ?_) <;> (try rw [List.length_map] at hb) <;> (try (exfalso; omega; done)) | fail)
      all_goals first | refine .inl ⟨_, s3, ?_⟩ | skip
      all_goals skip
      all_goals first
        | exact PSub.refl _
        | exact PSub.val_bool (f2 (by omega)).2
        | (exfalso; have h1 := f1 (by omega); contradiction)
        | (exfalso; have h2 := (f2 (by omega)).1; contradiction)
    all_goals first
      | exact PSub.refl _
      | exact PSub.val_bool ht
      | (exfalso; subst ht; contradiction)
      | (exfalso; omega)
      | (exfalso; simp only [List.length_map] at *; omega)
  all_goals first
    | exact PSub.refl _
    | exact PSub.val_bool ht
    | (exfalso; subst ht; contradiction)
    | (exfalso; omega)
    | (exfalso; simp only [List.length_map] at *; omega)
end Go.Proofs.Ytlploeedieenbaa
/- Networks: the law NetworkAll. Conditions: none. -/
namespace Go.Proofs.Ytlploeedieenbaa
open Go.Avc
def sentOf (l : List Pk) (k : Nat) : List Pk := (l.take k).filter fun p => decide p.ok
theorem sentOf_next {l : List Pk} {k : Nat} (h : k < l.length) : sentOf l (k + 1) = if l[k].ok then sentOf l k ++ [l[k]] else sentOf l k := by
  unfold sentOf
  rw [List.take_succ_eq_append_getElem h, List.filter_append]
  by_cases e : l[k].ok <;> simp [e]
theorem sentOf_ok (l : List Pk) (k : Nat) : ∀ p ∈ sentOf l k, p.ok := fun p hp => by
  have := (List.mem_filter.1 hp).2; simpa using this
theorem sentOf_len (l : List Pk) (k : Nat) : (sentOf l k).length ≤ l.length := Nat.le_trans (List.length_filter_le _ _) (by rw [List.length_take]; omega)
theorem net_ok {l : List Pk} (h : l.length ≤ 4000) (h1 : ∀ p ∈ l, p.ok) : Nt.ok ⟨l, []⟩ := ok_of_q (by omega) h1
set_option maxRecDepth 20000
set_option maxHeartbeats 4000000
set_option linter.unusedSimpArgs false
attribute [local irreducible] PSub Wp PSpec Le Need Both
attribute [local irreducible] sentOf
theorem all_law (l : List Pk) (order : List UInt8) : PSpec Try.prog 6 [encQ l, encB order] (.bool true) := by
  refine PSpec.bd Try.call6 fun hbd => ?_
  have hbl : l.length ≤ 9223372036854775807 ∧ order.length ≤ 9223372036854775807 := by
    simp only [encQ, encB, PV.bd, bdL, List.length_map] at hbd
    exact ⟨hbd.1.1, hbd.2.1.1⟩
  obtain ⟨t, ht⟩ : ∃ t : Bool, t = true := ⟨_, rfl⟩
  obtain ⟨z, hz⟩ : ∃ z : Int, z = 0 := ⟨_, rfl⟩
  obtain ⟨u, hu⟩ : ∃ u : Int, u = 490 := ⟨_, rfl⟩
  have q0 := sane_spec
  rw [← ht] at q0
  refine PSpec.of_vc (fun Γ => more7 false Γ.P Γ.fx) (fun Γ => more7_ok) Try.func6 rfl Try.call6 (by simp) ?_
  rintro ⟨P, N, w0, X, β0, fx, y, hy, pk, df⟩ rfl rfl rfl hoff rfl; change y.on = false at hoff
  skip
  refine .inl ⟨_, q0, ?_⟩
  repeat' ((try conv => whnf); first | (first | refine k3 (fun hb => ?_) fun hb => ?_ | refine k4 (fun hb => ?_) fun hb => ?_) <;> (try rw [List.length_map] at hb) <;> (try (exfalso; omega; done)) | refine k5 (fun hb => ?_) fun hb => ?_ | fail)
  all_goals first
    | exact PSub.refl _
    | exact PSub.val_bool ht
    | (exfalso; subst ht; contradiction)
    | (exfalso; omega)
    | (exfalso; simp only [List.length_map] at *; omega)
    | skip
  refine .inl ⟨_, new_spec, ?_⟩
  repeat' ((try conv => whnf); first | refine And.intro rfl ?_ | fail)
  have hl12 : l.length ≤ 12 := by omega
  refine Wp.loop (fun k : Nat => ⟨[(0, .pure (encQ l)), (1, .pure (encB order)), (5, .loc 5 0 0), (6, .lsl 300 0 (sentOf l k).length), (7, .int k)], [(5, some (.box [.pure (encQ (sentOf l k)), .pure (encA [])])), (300, some (.row 3 ((sentOf l k).map encPk)))], [5, 300]⟩)
    (fun k => k ≤ l.length) (fun k => l.length - k) 0 (Le.trans (Le.virt (k := 300) (sz := 3) rfl rfl (by omega)) (Le.of ?_ ?_ rfl rfl rfl)) (by omega) ?_
  · rw [show sentOf l 0 = [] by unfold sentOf; simp]
    (repeat' (first | exact trivial | refine And.intro ?_ ?_ | exact Or.inl rfl | exact l6 rfl | fail))
  · rw [show sentOf l 0 = [] by unfold sentOf; simp]
    (repeat' (first | exact trivial | exact rfl | refine And.intro ?_ ?_ | refine Exists.intro _ (And.intro rfl ?_) | exact Or.inl rfl | fail))
  intro k hk
  have hsl := sentOf_len l k
  by_cases hk2 : k < l.length
  · have hn := sentOf_next hk2
    have hNok : Nt.ok ⟨sentOf l k, []⟩ := net_ok (by omega) (sentOf_ok l k)
    by_cases hp : l[k].ok
    · rw [if_pos hp] at hn
      have q1 := ptup2 (send_spec ⟨sentOf l k, []⟩ l[k] (by simp only; omega) (by simp)) (n := ⟨sentOf l (k + 1), []⟩) (by rw [send_of hNok hp (by simp only; omega), hn]) hz
      refine code_sound (more := more7 false _ _) more7_ok FOK.wide _ ?_
      repeat' ((try conv => whnf); first | (first | refine k3 (fun hb => ?_) fun hb => ?_ | refine k4 (fun hb => ?_) fun hb => ?_) <;> (try rw [List.length_map] at hb) <;> (try (exfalso; omega; done)) | fail)
      refine Wp.draw (more := more7 true _ _) more7_det more7_ok FOK.wide rfl (by decide +kernel) (by conv => lhs; reduce) ?_
      repeat' ((try conv => whnf); first | refine s5 nm nm ?_ | fail)
      refine ⟨_, q1, ?_⟩
      repeat' ((try conv => whnf); first | (first | refine k3 (fun hb => ?_) fun hb => ?_ | refine k4 (fun hb => ?_) fun hb => ?_) <;> (try rw [List.length_map] at hb) <;> (try (exfalso; omega; done)) | refine And.intro rfl ?_ | refine s4 nm ?_ | refine s5 nm nm ?_ | refine And.intro bd ?_ | fail)
      refine ⟨k + 1, Le.map [(300, 45)] ?_ ?_ rfl rfl rfl rfl, by omega, by omega⟩
      · rw [hn]
        (repeat' (first | exact trivial | refine And.intro ?_ ?_ | exact Or.inl rfl | exact SubA.lsl ls | fail))
        all_goals (refine SubA.lsl ?_; simp)
      · rw [hn]
        (repeat' (first | exact trivial | refine And.intro ?_ ?_ | refine Exists.intro _ (And.intro rfl ?_) | exact Or.inl rfl | fail))
        all_goals (refine rowEq ?_; simp; try rfl)
    · rw [if_neg hp] at hn
      have q1 := ptup2 (send_spec ⟨sentOf l k, []⟩ l[k] (by simp only; omega) (by simp)) (n := zeroN) (e := 490) (by unfold Nt.send; rw [if_neg (fun h => hp h.2)]) hu
      refine code_sound (more := more7 false _ _) more7_ok FOK.wide _ ?_
      repeat' ((try conv => whnf); first | (first | refine k3 (fun hb => ?_) fun hb => ?_ | refine k4 (fun hb => ?_) fun hb => ?_) <;> (try rw [List.length_map] at hb) <;> (try (exfalso; omega; done)) | fail)
      refine Wp.draw (more := more7 true _ _) more7_det more7_ok FOK.wide rfl (by decide +kernel) (by conv => lhs; reduce) ?_
      repeat' ((try conv => whnf); first | refine s5 nm nm ?_ | fail)
      refine ⟨_, q1, ?_⟩
      repeat' ((try conv => whnf); first | (first | refine k3 (fun hb => ?_) fun hb => ?_ | refine k4 (fun hb => ?_) fun hb => ?_) <;> (try rw [List.length_map] at hb) <;> (try (exfalso; omega; done)) | refine And.intro rfl ?_ | refine s4 nm ?_ | fail)
      all_goals first
        | exact PSub.refl _
        | exact PSub.val_bool ht
        | (exfalso; subst ht; contradiction)
        | (exfalso; omega)
        | (exfalso; simp only [List.length_map] at *; omega)
        | skip
      refine ⟨k + 1, Le.of ?_ ?_ rfl rfl rfl, by omega, by omega⟩
      · rw [hn]
        (repeat' (first | exact trivial | refine And.intro ?_ ?_ | exact Or.inl rfl | fail))
      · rw [hn]
        (repeat' (first | exact trivial | exact rfl | refine And.intro ?_ ?_ | refine Exists.intro _ (And.intro rfl ?_) | exact Or.inl rfl | fail))
  have hok0 := sentOf_ok l k
  obtain ⟨R0, hR0⟩ : ∃ R0, R0 = sentOf l k := ⟨_, rfl⟩
  rw [← hR0] at hsl hok0 ⊢
  refine code_sound (more := more7 false _ _) more7_ok FOK.wide _ ?_
  repeat' ((try conv => whnf); first | (first | refine k3 (fun hb => ?_) fun hb => ?_ | refine k4 (fun hb => ?_) fun hb => ?_) <;> (try rw [List.length_map] at hb) <;> (try (exfalso; omega; done)) | fail)
  refine Wp.loop (fun s : Nat × List Pk => ⟨[(1, .pure (encB order)), (5, .loc 5 0 0), (6, .lsl 300 0 s.2.length), (10, .int s.1)], [(5, some (.box [.pure (encQ s.2), .pure (encA [])])), (300, some (.row 3 (s.2.map encPk)))], [5, 300]⟩)
    (fun s => s.1 + s.2.length ≤ 12 ∧ ∀ p ∈ s.2, p.ok) (fun s => s.2.length) (0, R0) (Le.of ?_ ?_ rfl rfl rfl) ⟨by simp only; omega, hok0⟩ ?_
  · (repeat' (first | exact trivial | refine And.intro ?_ ?_ | exact Or.inl rfl | fail))
  · (repeat' (first | exact trivial | exact rfl | refine And.intro ?_ ?_ | refine Exists.intro _ (And.intro rfl ?_) | exact Or.inl rfl | fail))
  intro ⟨i, R⟩ ⟨hi, hok⟩
  dsimp only at hi hok
  by_cases hpos : 0 < R.length
  · have hNok : Nt.ok ⟨R, []⟩ := net_ok (by omega) hok
    have rd : ∀ j : Nat, (hj : j < R.length) → ∃ R' : List Pk, R' = R.eraseIdx j ∧ R'.length + 1 = R.length ∧ (∀ p ∈ R', p.ok) ∧ R'.map encPk = (R.map encPk).take j ++ (R.map encPk).drop (j + 1) ∧
        PSpec Try.prog 20 [encN ⟨R, []⟩, .int j] (.tup [.agg (encPk R[j]), encN ⟨R', []⟩, .int z]) ∧ PSpec Try.prog 22 [.agg (encPk R[j]), .agg (encPk (R[0 + (j : Int).toNat]'(by omega)))] (.bool t) := fun j hj =>
      ⟨_, rfl, by rw [List.length_eraseIdx_of_lt hj]; omega, fun p hp => hok p (List.mem_of_mem_eraseIdx hp), erase_rows R j, ptup3 (deliver_spec ⟨R, []⟩ j (by simp only; omega) (by simp)) (by rw [deliver_of hNok hj]; simp) hz, by
        have e : 0 + (j : Int).toNat = j := by omega
        simp only [e]
        exact samePk_self _ ht⟩
    refine code_sound (more := more7 false _ _) more7_ok FOK.wide _ ?_
    repeat' ((try conv => whnf); first | (first | refine k3 (fun hb => ?_) fun hb => ?_ | refine k4 (fun hb => ?_) fun hb => ?_) <;> (try rw [List.length_map] at hb) <;> (try (exfalso; omega; done)) | refine s1 ?_ | refine s5 nm nm ?_ | refine And.intro bd ?_ | fail)
    · obtain ⟨j, hj⟩ : ∃ j : Nat, j = order[i].toNat % R.length := ⟨_, rfl⟩
      have hjl : j < R.length := by rw [hj]; exact Nat.mod_lt _ hpos
      obtain ⟨R', r1, r2, r3, r4, r5, r6⟩ := rd j hjl
      refine ⟨(j : Int), modU hj, ?_⟩
      skip
      refine .inl ⟨_, r5, ?_⟩
      repeat' ((try conv => whnf); first | refine And.intro rfl ?_ | fail)
      refine Wp.draw (more := more7 true _ _) more7_det more7_ok FOK.wide rfl (by decide +kernel) (by conv => lhs; reduce) ?_
      repeat' ((try conv => whnf); first | (first | refine k3 (fun hb => ?_) fun hb => ?_ | refine k4 (fun hb => ?_) fun hb => ?_) <;> (try rw [List.length_map] at hb) <;> (try (exfalso; omega; done)) | refine And.intro bd ?_ | refine .inl ⟨_, getMapN nm, rfl, rfl, ?_⟩ | fail)
      refine ⟨_, r6, ?_⟩
      repeat' ((try conv => whnf); first | refine k5 (fun hb => ?_) fun hb => ?_ | refine And.intro rfl ?_ | fail)
      all_goals first
        | exact PSub.refl _
        | exact PSub.val_bool ht
        | (exfalso; subst ht; contradiction)
        | (exfalso; omega)
        | (exfalso; simp only [List.length_map] at *; omega)
        | skip
      refine Wp.draw (more := more7 true _ _) more7_det more7_ok FOK.wide rfl (by decide +kernel) (by conv => lhs; reduce) ?_
      repeat' ((try conv => whnf); first | refine And.intro rfl ?_ | refine s4 nm ?_ | refine And.intro bd ?_ | fail)
      have e1 : ((j : Int) + 1).toNat = j + 1 := by omega
      have hsz : ∀ (A : List (List PV)), A.length = R.length → (List.take ((j : Int).toNat - 0) (List.drop (0 + 0) A)).length + (List.take (R.length - ((j : Int) + 1).toNat) (List.drop (0 + ((j : Int) + 1).toNat) A)).length = R'.length := fun A hA => by
        simp only [e1, Int.toNat_natCast, List.length_take, List.length_drop, Nat.sub_zero, Nat.zero_add]; omega
      have hrw : List.take ((j : Int).toNat - 0) (List.drop (0 + 0) (R.map encPk)) ++ List.take (R.length - ((j : Int) + 1).toNat) (List.drop (0 + ((j : Int) + 1).toNat) (R.map encPk)) = R'.map encPk := by
        rw [r4]
        simp only [e1, Int.toNat_natCast, Nat.sub_zero, Nat.zero_add, List.drop_zero]
        rw [List.take_of_length_le (l := List.drop _ _) (by simp)]
      refine ⟨(i + 1, R'), Le.map [(300, 91)] ?_ ?_ rfl rfl rfl rfl, ⟨by simp only; omega, r3⟩, by simp only; omega⟩
      · (repeat' (first | exact trivial | refine And.intro ?_ ?_ | exact Or.inl rfl | exact SubA.lsl ls | fail))
        all_goals (refine SubA.lsl ?_; simp only [List.nil_append]; exact hsz _ (by simp))
      · (repeat' (first | exact trivial | refine And.intro ?_ ?_ | refine Exists.intro _ (And.intro rfl ?_) | exact Or.inl rfl | fail))
        all_goals (refine rowEq ?_; simp only [List.nil_append]; exact hrw)
    · obtain ⟨R', r1, r2, r3, r4, r5, r6⟩ := rd 0 hpos
      refine .inl ⟨_, r5, ?_⟩
      repeat' ((try conv => whnf); first | refine And.intro rfl ?_ | fail)
      refine Wp.draw (more := more7 true _ _) more7_det more7_ok FOK.wide rfl (by decide +kernel) (by conv => lhs; reduce) ?_
      repeat' ((try conv => whnf); first | (first | refine k3 (fun hb => ?_) fun hb => ?_ | refine k4 (fun hb => ?_) fun hb => ?_) <;> (try rw [List.length_map] at hb) <;> (try (exfalso; omega; done)) | refine And.intro bd ?_ | refine .inl ⟨_, getMapN nm, rfl, rfl, ?_⟩ | fail)
      refine ⟨_, r6, ?_⟩
      repeat' ((try conv => whnf); first | refine k5 (fun hb => ?_) fun hb => ?_ | refine And.intro rfl ?_ | fail)
      all_goals first
        | exact PSub.refl _
        | exact PSub.val_bool ht
        | (exfalso; subst ht; contradiction)
        | (exfalso; omega)
        | (exfalso; simp only [List.length_map] at *; omega)
        | skip
      refine Wp.draw (more := more7 true _ _) more7_det more7_ok FOK.wide rfl (by decide +kernel) (by conv => lhs; reduce) ?_
      repeat' ((try conv => whnf); first | refine And.intro rfl ?_ | refine s4 nm ?_ | refine And.intro bd ?_ | fail)
      refine ⟨(i + 1, R'), Le.map [(300, 91)] ?_ ?_ rfl rfl rfl rfl, ⟨by simp only; omega, r3⟩, by simp only; omega⟩
      · (repeat' (first | exact trivial | refine And.intro ?_ ?_ | exact Or.inl rfl | exact SubA.lsl ls | fail))
        all_goals (refine SubA.lsl ?_; simp; omega)
      · (repeat' (first | exact trivial | refine And.intro ?_ ?_ | refine Exists.intro _ (And.intro rfl ?_) | exact Or.inl rfl | fail))
        all_goals (refine rowEq ?_; rw [r4]; simp; exact List.take_of_length_le (by simp))
    all_goals (refine PSub.val_bool (decide_eq_true ?_); simp only [List.length_map] at *; omega)
  · have hnil : R = [] := List.length_eq_zero_iff.1 (by omega)
    subst hnil
    refine code_sound (more := more7 false _ _) more7_ok FOK.wide _ ?_
    skip
    exact PSub.val_bool (by simp)
end Go.Proofs.Ytlploeedieenbaa
