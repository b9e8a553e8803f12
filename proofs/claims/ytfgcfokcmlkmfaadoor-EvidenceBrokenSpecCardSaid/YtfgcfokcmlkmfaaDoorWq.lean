/- Evidence: the law EvidenceBrokenSpec. Conditions: none. -/
import Derived.Test.YtfgcfokcmlkmfaaDoorWd
import Derived.Test.YtfgcfokcmlkmfaaDoorWn
set_option linter.unusedSimpArgs false
set_option linter.unusedVariables false
namespace Go.Proofs.YtfgcfokcmlkmfaaDoor
open Go.Avc
set_option maxRecDepth 20000
set_option maxHeartbeats 4000000
set_option linter.unusedSimpArgs false
attribute [local irreducible] PSub Wp PSpec Le Need Both
attribute [local irreducible] recE recD tagged sha headOf addR
theorem brokenSpec_spec (l : List Rec) (head : List UInt8) (hl : ∀ r ∈ l, r.ok) (hh : head.length = 32) : PSpec Tryd.prog 5 [encRs l, .agg (dcells head)] (.bool true) := by
  have qf := rvFew_spec l
  have hc := few_can hl
  obtain ⟨f, hf⟩ : ∃ f, f = fewR l := ⟨_, rfl⟩
  rw [← hf] at qf hc
  have qh := fun h => rvHead_spec l (hc h).1
  have hhl := headOf_len l
  obtain ⟨h2, hh2⟩ : ∃ h, h = headOf l := ⟨_, rfl⟩
  rw [← hh2] at qh hhl
  refine PSpec.of_vc (fun Γ => more6 false Γ.P Γ.fx) (fun Γ => more6_ok) Tryd.func5 rfl Tryd.call5 (by simp) ?_
  rintro ⟨P, N, w0, X, β0, fx, y, hy, pk, df⟩ rfl rfl rfl hoff rfl; change y.on = false at hoff
  repeat' ((try conv => whnf); first | refine And.intro rfl ?_ | refine ⟨_, singles_rfl _, ?_⟩ | fail)
  refine .inl ⟨_, sane_spec, ?_⟩
  skip
  refine .inl ⟨_, qf, ?_⟩
  repeat' ((try conv => whnf); first | refine k5 (fun hb => ?_) fun hb => ?_ | fail)
  · refine Wp.draw (more := more6 true _ _) more6_det more6_ok FOK.wide rfl (by decide +kernel) (by conv => lhs; reduce) ?_
    repeat' ((try conv => whnf); first | refine .inr ⟨rfl, rfl, rfl, ?_⟩ | fail)
    refine ⟨_, qh (by assumption), ?_⟩
    repeat' ((try conv => whnf); first | refine And.intro rfl ?_ | fail)
    refine ⟨⟨⟨rfl, rfl⟩, ⟨rfl, rfl⟩, trivial⟩, by decide, ?_⟩
    skip
    refine Wp.loop (fun k : Nat => ⟨[(0, .pure (encRs l)), (19, .lsl 19 0 2), (20, .int 2), (21, .int k)], [(19, some (.row 32 [dcells head, dcells h2]))], [19]⟩) (fun k => k ≤ 2) (fun k => 2 - k) 0 (Le.of ?_ ?_ rfl rfl rfl) (by omega) ?_
    · (repeat' (first | exact trivial | refine And.intro ?_ ?_ | exact Or.inl rfl | fail))
    · (repeat' (first | exact trivial | exact rfl | refine And.intro ?_ ?_ | fail))
    intro k hk
    by_cases hk2 : k < 2
    · obtain ⟨d, hd, hd32⟩ : ∃ d : List UInt8, [dcells head, dcells h2][k]? = some (dcells d) ∧ d.length = 32 := by
        have : k = 0 ∨ k = 1 := by omega
        rcases this with rfl | rfl
        · exact ⟨_, rfl, hh⟩
        · exact ⟨_, rfl, hhl⟩
      obtain ⟨a, b, hB⟩ := BrokenIs.ex l d
      have q1 := fun h => evBroken_spec l d (hc h).1 (by have := (hc h).2.1; omega) hd32 a b hB
      have q2 := fun h => rvBroken_spec l d (hc h).1 hd32 a b hB
      refine code_sound (more := more6 false _ _) more6_ok FOK.wide _ ?_
      repeat' ((try conv => whnf); first | (first | refine k3 (fun hb => ?_) fun hb => ?_ | refine k4 (fun hb => ?_) fun hb => ?_) <;> (try rw [List.length_map] at hb) <;> (try (exfalso; omega; done)) | refine And.intro bd ?_ | fail)
      refine .inl ⟨_, by rw [Nat.zero_add, Int.toNat_natCast]; exact hd, by kernel_rfl, rfl, ?_⟩
      repeat' ((try conv => whnf); first | refine And.intro rfl ?_ | refine .inr ⟨rfl, rfl, rfl, ?_⟩ | fail)
      refine .inl ⟨_, q1 (by assumption), ?_⟩
      repeat' ((try conv => whnf); first | refine .inr ⟨rfl, rfl, rfl, ?_⟩ | fail)
      refine .inl ⟨_, q2 (by assumption), ?_⟩
      repeat' ((try conv => whnf); first | refine k1 (fun hb => ?_) fun hb => ?_ | (first | refine k3 (fun hb => ?_) fun hb => ?_ | refine k4 (fun hb => ?_) fun hb => ?_) <;> (try rw [List.length_map] at hb) <;> (try (exfalso; omega; done)) | refine s4 nm ?_ | fail)
      · exact ⟨k + 1, Le.of (by (repeat' (first | exact trivial | refine And.intro ?_ ?_ | exact Or.inl rfl | fail))) (by (repeat' (first | exact trivial | exact rfl | refine And.intro ?_ ?_ | fail))) rfl rfl rfl, by omega, by omega⟩
      · exact absurd rfl (by assumption)
    · refine code_sound (more := more6 false _ _) more6_ok FOK.wide _ ?_
      repeat' ((try conv => whnf); first | (first | refine k3 (fun hb => ?_) fun hb => ?_ | refine k4 (fun hb => ?_) fun hb => ?_) <;> (try rw [List.length_map] at hb) <;> (try (exfalso; omega; done)) | fail)
      exact PSub.val_bool rfl
  · exact PSub.val_bool rfl
end Go.Proofs.YtfgcfokcmlkmfaaDoor
