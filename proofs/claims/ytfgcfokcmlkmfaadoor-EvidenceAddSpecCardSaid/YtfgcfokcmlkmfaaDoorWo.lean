/- Evidence: the law EvidenceAddSpec. Conditions: none. -/
import Derived.Test.YtfgcfokcmlkmfaaDoorWd
import Derived.Test.YtfgcfokcmlkmfaaDoorWn
set_option linter.unusedSimpArgs false
set_option linter.unusedVariables false
namespace Go.Proofs.YtfgcfokcmlkmfaaDoor
open Go.Avc
set_option maxRecDepth 20000
set_option maxHeartbeats 4000000
set_option linter.unusedSimpArgs false
attribute [local irreducible] PSub Wp PSpec Le Need Both
attribute [local irreducible] recE recD tagged sha headOf addR
theorem addSpec_spec (l : List Rec) (party kind day : Int) (body : List UInt8) (hl : ∀ r ∈ l, r.ok) (hbd : body.length ≤ 140737488355328) : PSpec Tryd.prog 3 [encRs l, .int party, .int kind, .int day, encB body] (.bool true) := by
  have qf := rvFew_spec l
  have hc := few_can hl
  obtain ⟨f, hf⟩ : ∃ f, f = fewR l := ⟨_, rfl⟩
  rw [← hf] at qf hc
  have qa := fun h => evAdd_spec l party kind day body (hc h).1 (by have := (hc h).2.1; omega)
  have qb := fun h => rvAdd_spec l party kind day body (hc h).1 (by have := (hc h).2.1; omega)
  obtain ⟨x, hx⟩ : ∃ x, x = addR l (mkR l party kind day body) := ⟨_, rfl⟩
  have hp : ∀ y ∈ x.1, y.prev.length = 32 := by rw [hx]; exact addR_prev (fun r hr => (hl r hr).2.2.2.2) (mkR_len _ _ _ _ _)
  rw [← hx, enc2_eq] at qa qb
  have qs := rvSameL_spec x.1 x.1 hp hp
  rw [sameL2_refl] at qs
  obtain ⟨xl, xe⟩ := x
  dsimp only at qa qb qs
  obtain ⟨t, ht⟩ : ∃ t, t = true := ⟨_, rfl⟩
  rw [← ht] at qs
  obtain ⟨v, hv⟩ : ∃ v, v = errV (validB l) := ⟨_, rfl⟩
  refine PSpec.of_vc (fun Γ => more6 false Γ.P Γ.fx) (fun Γ => more6_ok) Tryd.func3 rfl Tryd.call3 (by simp) ?_
  rintro ⟨P, N, w0, X, β0, fx, y, hy, pk, df⟩ rfl rfl rfl hoff rfl; change y.on = false at hoff
  skip
  refine .inl ⟨_, sane_spec, ?_⟩
  skip
  refine .inl ⟨_, qf, ?_⟩
  repeat' ((try conv => whnf); first | (first | refine k3 (fun hb => ?_) fun hb => ?_ | refine k4 (fun hb => ?_) fun hb => ?_) <;> (try rw [List.length_map] at hb) <;> (try (exfalso; omega; done)) | refine k5 (fun hb => ?_) fun hb => ?_ | fail)
  · exact PSub.val_bool rfl
  · have qc := fun h => evCheck_spec l (hc h).1 (by have := (hc h).2.1; omega)
    have qd := fun h => rvCheck_spec l (hc h).1
    rw [← hv] at qc qd
    refine .inl ⟨_, qa (by assumption) (by omega), ?_⟩
    repeat' ((try conv => whnf); first | refine And.intro rfl ?_ | fail)
    refine .inl ⟨_, qb (by assumption), ?_⟩
    repeat' ((try conv => whnf); first | refine And.intro rfl ?_ | fail)
    refine .inl ⟨_, qs, ?_⟩
    repeat' ((try conv => whnf); first | (first | refine k3 (fun hb => ?_) fun hb => ?_ | refine k4 (fun hb => ?_) fun hb => ?_) <;> (try rw [List.length_map] at hb) <;> (try (exfalso; omega; done)) | refine k6 (fun hb => ?_) fun hb => ?_ | fail)
    · refine .inl ⟨_, qc (by assumption), ?_⟩
      skip
      refine .inl ⟨_, qd (by assumption), ?_⟩
      skip
      exact PSub.val_bool (by simp)
    all_goals exact absurd ht (by simp_all)
  · exact PSub.val_bool rfl
end Go.Proofs.YtfgcfokcmlkmfaaDoor
