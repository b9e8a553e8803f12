/- Evidence: the law EvidenceBack. Conditions: none. -/
import Derived.Test.YtfgcfokcmlkmfaaDoorWd
import Derived.Test.YtfgcfokcmlkmfaaDoorWn
set_option linter.unusedSimpArgs false
set_option linter.unusedVariables false
namespace Go.Proofs.YtfgcfokcmlkmfaaDoor
open Go.Avc
theorem dec_back {r : Rec} (h : r.ok) (hb : r.body.length ≤ 800000) : DecIs (recE r) r 0 :=
  .ok _ (decode_enc (recV_check _) (by have := recE_len h (by omega); show (recE r).length ≤ _; omega) (recV_fits h (by omega))) h rfl
/-- What is decoded, and is no error, is a record that can be, with these bytes. -/
theorem dec_ok {b : List UInt8} {r : Rec} {e : Int} (hd : DecIs b r e) : (e = 0 ∧ r.ok ∧ recE r = b) ∨ (e ≠ 0 ∧ r = zeroR) := by
  cases hd with
  | bad => exact .inr ⟨by decide, rfl⟩
  | no => exact .inr ⟨by decide, rfl⟩
  | ok r h hr he => exact .inl ⟨rfl, hr, he⟩
theorem body_le {r : Rec} : r.body.length ≤ (recE r).length := by
  rw [recE_eq]
  simp only [List.length_cons, List.length_append]
  omega
set_option maxRecDepth 20000
set_option maxHeartbeats 4000000
set_option linter.unusedSimpArgs false
attribute [local irreducible] PSub Wp PSpec Le Need Both
attribute [local irreducible] recE recD tagged sha headOf addR
theorem back_spec (r : Rec) (b : List UInt8) (hr : r.ok) (hb1 : r.body.length ≤ 140737488355328) (hb2 : b.length ≤ 140737488355328) : PSpec Tryd.prog 9 [.agg (encR r), encB b] (.bool true) := by
  have q1 := fun h => evEncode_spec r hr h
  have q2 := fun h h' => evDecode_spec (recE r) h r 0 (dec_back hr h')
  have q3 := rvSame_spec r r hr.2.2.2.2 hr.2.2.2.2
  rw [sameB_true rfl] at q3
  have hlen := fun h => recE_len hr h
  obtain ⟨t, ht⟩ : ∃ t, t = true := ⟨_, rfl⟩
  obtain ⟨z, hz⟩ : ∃ z : Int, z = 0 := ⟨_, rfl⟩
  rw [← ht] at q3
  rw [← hz] at q1 q2
  refine PSpec.of_vc (fun Γ => more6 false Γ.P Γ.fx) (fun Γ => more6_ok) Tryd.func9 rfl Tryd.call9 (by simp) ?_
  rintro ⟨P, N, w0, X, β0, fx, y, hy, pk, df⟩ rfl rfl rfl hoff rfl; change y.on = false at hoff
  skip
  refine .inl ⟨_, sane_spec, ?_⟩
  repeat' ((try conv => whnf); first | (first | refine k3 (fun hb => ?_) fun hb => ?_ | refine k4 (fun hb => ?_) fun hb => ?_) <;> (try rw [List.length_map] at hb) <;> (try (exfalso; omega; done)) | fail)
  · exact PSub.val_bool rfl
  · exact PSub.val_bool rfl
  have hl := hlen (by omega)
  refine .inl ⟨_, q1 (by omega), ?_⟩
  repeat' ((try conv => whnf); first | refine And.intro rfl ?_ | fail)
  refine .inl ⟨_, q2 (by omega) (by omega), ?_⟩
  repeat' ((try conv => whnf); first | (first | refine k3 (fun hb => ?_) fun hb => ?_ | refine k4 (fun hb => ?_) fun hb => ?_) <;> (try rw [List.length_map] at hb) <;> (try (exfalso; omega; done)) | refine And.intro rfl ?_ | fail)
  refine .inl ⟨_, q3, ?_⟩
  repeat' ((try conv => whnf); first | refine k5 (fun hb => ?_) fun hb => ?_ | fail)
  rotate_left
  · exact absurd ht (by simp_all)
  obtain ⟨r2, e2, hd⟩ := DecIs.ex b (by omega)
  have q4 := evDecode_spec b (by omega) r2 e2 hd
  have q5 := rvSame_spec zeroR zeroR rfl rfl
  rw [sameB_true rfl, ← ht] at q5
  refine .inl ⟨_, q4, ?_⟩
  repeat' ((try conv => whnf); first | (first | refine k3 (fun hb => ?_) fun hb => ?_ | refine k4 (fun hb => ?_) fun hb => ?_) <;> (try rw [List.length_map] at hb) <;> (try (exfalso; omega; done)) | refine And.intro rfl ?_ | fail)
  · rcases dec_ok hd with ⟨h1, h2, h3⟩ | ⟨h1, h2⟩
    · have h4 : r2.body.length ≤ b.length := by rw [← h3]; exact body_le
      have q6 := evEncode_spec r2 h2 (by omega)
      rw [h3, ← hz] at q6
      refine .inl ⟨_, q6, ?_⟩
      repeat' ((try conv => whnf); first | (first | refine k3 (fun hb => ?_) fun hb => ?_ | refine k4 (fun hb => ?_) fun hb => ?_) <;> (try rw [List.length_map] at hb) <;> (try (exfalso; omega; done)) | refine And.intro rfl ?_ | refine s7 ?_ | fail)
      exact PSub.val_bool (by simp)
    · exact absurd (by assumption) h1
  · rcases dec_ok hd with ⟨h1, h2, h3⟩ | ⟨h1, rfl⟩
    · exact absurd h1 (by assumption)
    · refine .inl ⟨_, q5.args ⟨PSub.refl _, PSub.agg ⟨PSub.refl _, PSub.refl _, PSub.refl _, PSub.refl _, PSub.nil 1, SubL.refl _⟩, trivial⟩, ?_⟩
      skip
      exact PSub.val_bool ht
end Go.Proofs.YtfgcfokcmlkmfaaDoor
/- Evidence: the law EvidenceCodeSpec. Conditions: none. -/
namespace Go.Proofs.YtfgcfokcmlkmfaaDoor
open Go.Avc
theorem dec_prev {b : List UInt8} {r : Rec} {e : Int} (hd : DecIs b r e) : r.prev.length = 32 := by
  rcases dec_ok hd with ⟨_, h, _⟩ | ⟨_, rfl⟩
  · exact h.2.2.2.2
  · rfl
set_option maxRecDepth 20000
set_option maxHeartbeats 4000000
set_option linter.unusedSimpArgs false
attribute [local irreducible] PSub Wp PSpec Le Need Both
attribute [local irreducible] recE recD tagged sha headOf addR
theorem codeSpec_spec (l : List Rec) (r : Rec) (b : List UInt8) (hl : ∀ r ∈ l, r.ok) (hr : r.ok) (hb1 : r.body.length ≤ 140737488355328) (hb2 : b.length ≤ 140737488355328) : PSpec Tryd.prog 4 [encRs l, .agg (encR r), encB b] (.bool true) := by
  have qf := rvFew_spec l
  have hc := few_can hl
  obtain ⟨f, hf⟩ : ∃ f, f = fewR l := ⟨_, rfl⟩
  rw [← hf] at qf hc
  have q1 := fun h => evEncode_spec r hr h
  have q2 := fun h => rvEncode_spec r hr h
  have q3 := fun h => evDigest_spec r hr h
  have q4 := fun h => rvDigest_spec r hr h
  have q5 := fun h => evHead_spec l (hc h).1
  have q6 := fun h => rvHead_spec l (hc h).1
  have hlen := fun h => recE_len hr h
  obtain ⟨t, ht⟩ : ∃ t, t = true := ⟨_, rfl⟩
  obtain ⟨z, hz⟩ : ∃ z : Int, z = 0 := ⟨_, rfl⟩
  rw [← hz] at q1 q2
  obtain ⟨d, hd⟩ : ∃ d, d = recD r := ⟨_, rfl⟩
  have hdl : d.length = 32 := by rw [hd]; exact recD_len _
  rw [← hd] at q3 q4
  obtain ⟨h, hh⟩ : ∃ d, d = headOf l := ⟨_, rfl⟩
  have hhl : h.length = 32 := by rw [hh]; exact headOf_len _
  rw [← hh] at q5 q6
  have dd := digEq d d hdl hdl
  have dh := digEq h h hhl hhl
  rw [decide_eq_true rfl, ← ht] at dd dh
  refine PSpec.of_vc (fun Γ => more6 false Γ.P Γ.fx) (fun Γ => more6_ok) Tryd.func4 rfl Tryd.call4 (by simp) ?_
  rintro ⟨P, N, w0, X, β0, fx, y, hy, pk, df⟩ rfl rfl rfl hoff rfl; change y.on = false at hoff
  skip
  refine .inl ⟨_, sane_spec, ?_⟩
  skip
  refine .inl ⟨_, qf, ?_⟩
  repeat' ((try conv => whnf); first | (first | refine k3 (fun hb => ?_) fun hb => ?_ | refine k4 (fun hb => ?_) fun hb => ?_) <;> (try rw [List.length_map] at hb) <;> (try (exfalso; omega; done)) | refine k5 (fun hb => ?_) fun hb => ?_ | fail)
  any_goals exact PSub.val_bool rfl
  have hl2 := hlen (by omega)
  refine .inl ⟨_, q1 (by omega), ?_⟩
  repeat' ((try conv => whnf); first | refine And.intro rfl ?_ | fail)
  refine .inl ⟨_, q2 (by omega), ?_⟩
  repeat' ((try conv => whnf); first | refine And.intro rfl ?_ | fail)
  refine Wp.draw (more := more6 true _ _) more6_det more6_ok FOK.wide rfl (by decide +kernel) (by conv => lhs; reduce) ?_
  repeat' ((try conv => whnf); first | (first | refine k3 (fun hb => ?_) fun hb => ?_ | refine k4 (fun hb => ?_) fun hb => ?_) <;> (try rw [List.length_map] at hb) <;> (try (exfalso; omega; done)) | refine s7 ?_ | fail)
  rotate_left
  · exact absurd rfl (by assumption)
  refine ⟨_, q3 (by omega), ?_⟩
  repeat' ((try conv => whnf); first | refine And.intro rfl ?_ | fail)
  refine ⟨_, q4 (by omega), ?_⟩
  repeat' ((try conv => whnf); first | refine And.intro rfl ?_ | fail)
  refine ⟨_, dd, isAp, isAp, ?_⟩
  repeat' ((try conv => whnf); first | refine k5 (fun hb => ?_) fun hb => ?_ | fail)
  rotate_left
  · exact absurd ht (by simp_all)
  refine ⟨_, q5 (by assumption), ?_⟩
  repeat' ((try conv => whnf); first | refine And.intro rfl ?_ | fail)
  refine ⟨_, q6 (by assumption), ?_⟩
  repeat' ((try conv => whnf); first | refine And.intro rfl ?_ | fail)
  refine ⟨_, dh, isAp, isAp, ?_⟩
  repeat' ((try conv => whnf); first | refine k5 (fun hb => ?_) fun hb => ?_ | refine And.intro bd ?_ | fail)
  rotate_left
  · exact absurd ht (by simp_all)
  refine Wp.loop (fun k : Nat => ⟨[(69, .lsl 69 0 2), (70, .int 2), (71, .int k)], [(69, some (.row 1 [[encB b], [encB (recE r)]]))], [69]⟩) (fun k => k ≤ 2) (fun k => 2 - k) 0 (Le.of ?_ ?_ rfl rfl rfl) (by omega) ?_
  · (repeat' (first | exact trivial | refine And.intro ?_ ?_ | exact Or.inl rfl | fail))
  · (repeat' (first | exact trivial | exact rfl | refine And.intro ?_ ?_ | fail))
  intro k hk
  by_cases hk2 : k < 2
  · obtain ⟨w, hw, hwl⟩ : ∃ w : List UInt8, [[encB b], [encB (recE r)]][k]? = some [encB w] ∧ w.length ≤ 800000 := by
      have : k = 0 ∨ k = 1 := by omega
      rcases this with rfl | rfl
      · exact ⟨_, rfl, by omega⟩
      · exact ⟨_, rfl, by omega⟩
    obtain ⟨r2, e2, hd2⟩ := DecIs.ex w (by omega)
    have p1 := evDecode_spec w (by omega) r2 e2 hd2
    have p2 := rvDecode_spec w (by omega) r2 e2 hd2
    have p3 := rvSame_spec r2 r2 (dec_prev hd2) (dec_prev hd2)
    rw [sameB_true rfl, ← ht] at p3
    refine code_sound (more := more6 false _ _) more6_ok FOK.wide _ ?_
    repeat' ((try conv => whnf); first | (first | refine k3 (fun hb => ?_) fun hb => ?_ | refine k4 (fun hb => ?_) fun hb => ?_) <;> (try rw [List.length_map] at hb) <;> (try (exfalso; omega; done)) | refine And.intro bd ?_ | fail)
    refine ⟨_, _, by rw [Nat.zero_add, Int.toNat_natCast]; exact hw, rfl, ?_⟩
    skip
    refine .inl ⟨_, p1, ?_⟩
    repeat' ((try conv => whnf); first | refine And.intro rfl ?_ | fail)
    refine .inl ⟨_, p2, ?_⟩
    repeat' ((try conv => whnf); first | refine And.intro rfl ?_ | fail)
    refine .inl ⟨_, p3, ?_⟩
    repeat' ((try conv => whnf); first | (first | refine k3 (fun hb => ?_) fun hb => ?_ | refine k4 (fun hb => ?_) fun hb => ?_) <;> (try rw [List.length_map] at hb) <;> (try (exfalso; omega; done)) | refine k5 (fun hb => ?_) fun hb => ?_ | refine s4 nm ?_ | fail)
    · exact ⟨k + 1, Le.of (by (repeat' (first | exact trivial | refine And.intro ?_ ?_ | exact Or.inl rfl | fail))) (by (repeat' (first | exact trivial | exact rfl | refine And.intro ?_ ?_ | fail))) rfl rfl rfl, by omega, by omega⟩
    · exact absurd ht (by simp_all)
  · refine code_sound (more := more6 false _ _) more6_ok FOK.wide _ ?_
    repeat' ((try conv => whnf); first | (first | refine k3 (fun hb => ?_) fun hb => ?_ | refine k4 (fun hb => ?_) fun hb => ?_) <;> (try rw [List.length_map] at hb) <;> (try (exfalso; omega; done)) | fail)
    exact PSub.val_bool rfl
end Go.Proofs.YtfgcfokcmlkmfaaDoor
