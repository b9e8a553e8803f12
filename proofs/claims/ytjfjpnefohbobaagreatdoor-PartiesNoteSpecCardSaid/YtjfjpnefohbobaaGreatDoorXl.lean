/- Parties: the reference's Formed, own, encoded, Check. Conditions: none. -/
import Derived.Test.YtjfjpnefohbobaaGreatDoorWd
import Derived.Test.YtjfjpnefohbobaaGreatDoorXe
import Derived.Test.YtjfjpnefohbobaaGreatDoorXj
import Derived.Test.YtjfjpnefohbobaaGreatDoorWk
import Derived.Test.YtjfjpnefohbobaaGreatDoorWm
import Derived.Test.YtjfjpnefohbobaaGreatDoorXk
set_option linter.unusedSimpArgs false
set_option linter.unusedVariables false
set_option maxRecDepth 20000
set_option maxHeartbeats 4000000
namespace Go.Proofs.YtjfjpnefohbobaaGreatDoor
open Go.Avc
theorem valid_party {l : List Rec} (h : Valid l) {k : Nat} (hk : k < l.length) : l[k].party = firstP l := by
 have hf := (h k hk).same
 rcases hf with h0 | ⟨h1, _⟩
 · rw [List.length_take] at h0
   have : k = 0 := by omega
   subst this
   exact firstP_at hk
 · by_cases h0 : k = 0
   · subst h0; exact firstP_at hk
   · rw [h1, firstP_take (by omega) (by omega)]
attribute [local irreducible] PSub Wp PSpec Le Need Both
attribute [local irreducible] recE recD tagged sha headOf decF decode
theorem rpformed_spec (p : Party) : PSpec Tryz.prog 43 [.agg (encP p)] (.bool (decide p.formed)) := by
 have q := K.refCheck_spec p.disk
 obtain ⟨c, hc⟩ : ∃ c, c = p.disk.check := ⟨_, rfl⟩
 rw [← hc] at q
 refine PSpec.of_vc (fun Γ => more6 false Γ.P Γ.fx) (fun Γ => more6_ok) Tryz.func43 rfl Tryz.call43 (by simp) ?_
 rintro ⟨P, N, w0, X, β0, fx, y, hy, pk, df⟩ rfl rfl rfl hoff rfl; change y.on = false at hoff
 repeat' ((try conv => whnf); first | (first | refine k3 ?_ ?_ | refine k4 ?_ ?_) <;> intro hb <;> (try rw [lM] at hb) <;> try (exfalso; omega) | fail)
 · refine .inl ⟨_, q, ?_⟩
   skip
   exact PSub.val_bool (by rw [decide_eq_decide]; unfold Party.formed; rw [← hc]; constructor <;> intro h <;> first | exact h.2.2 | exact ⟨by omega, by omega, h⟩)
 all_goals exact PSub.val_bool (decide_eq_false (by unfold Party.formed; omega)).symm
theorem rpown_spec (l : List Rec) (id : Int) (hl : ∀ x ∈ l, x.can) (hlen : l.length ≤ 1000000) : PSpec Tryz.prog 44 [encRs l, .int id] (.bool (ownedB id l)) := by
 have q := rvCheck_spec l hl
 obtain ⟨c, hc⟩ : ∃ c, c = errV (validB l) := ⟨_, rfl⟩
 rw [← hc] at q
 refine PSpec.of_vc (fun Γ => more6 false Γ.P Γ.fx) (fun Γ => more6_ok) Tryz.func44 rfl Tryz.call44 (by simp) ?_
 rintro ⟨P, N, w0, X, β0, fx, y, hy, pk, df⟩ rfl rfl rfl hoff rfl; change y.on = false at hoff
 skip
 refine .inl ⟨_, q, ?_⟩
 repeat' ((try conv => whnf); first | (first | refine k3 ?_ ?_ | refine k4 ?_ ?_) <;> intro hb <;> (try rw [lM] at hb) <;> try (exfalso; omega) | fail)
 rotate_left
 · exact PSub.val_bool (ownedB_false (fun ho => by rw [validB_true ho.1] at hc; exact absurd hc (by assumption))).symm
 have hv := errV_zero (l := l) (by rw [← hc]; omega)
 refine Wp.loop (fun k : Nat => ⟨[(0, .pure (encRs l)), (1, .int id), (5, .int k)], [], []⟩) (fun k => k ≤ l.length ∧ (0 < k → firstP l = id)) (fun k => l.length - k) 0 (Le.of ?_ ?_ rfl rfl rfl) ⟨by omega, by omega⟩ ?_
 · (repeat' (first | exact trivial | refine aq ?_ ?_ | exact oq | fail))
 · (repeat' (first | exact trivial | fail))
 rintro k ⟨hk, hp⟩
 by_cases hk2 : k < l.length
 · have hvp := valid_party hv hk2
   refine code_sound (more := more6 false _ _) more6_ok FOK.wide _ ?_
   repeat' ((try conv => whnf); first | (first | refine k3 ?_ ?_ | refine k4 ?_ ?_) <;> intro hb <;> (try rw [lM] at hb) <;> try (exfalso; omega) | refine s4 nm ?_ | refine s5 nm nm ?_ | fail)
   rotate_left
   · refine PSub.val_bool (ownedB_false (fun ho => ?_)).symm
     rcases ho.2 with h | h
     · omega
     · rw [h] at hvp; exact absurd hvp (by assumption)
   · exact ⟨k + 1, Le.of (by (repeat' (first | exact trivial | refine aq ?_ ?_ | exact oq | fail))) (by (repeat' (first | exact trivial | fail))) rfl rfl rfl, ⟨by omega, fun _ => hvp.symm.trans (by assumption)⟩, by omega⟩
 · refine code_sound (more := more6 false _ _) more6_ok FOK.wide _ ?_
   repeat' ((try conv => whnf); first | (first | refine k3 ?_ ?_ | refine k4 ?_ ?_) <;> intro hb <;> (try rw [lM] at hb) <;> try (exfalso; omega) | fail)
   refine PSub.val_bool (ownedB_true ⟨hv, ?_⟩).symm
   by_cases h0 : l.length = 0
   · exact .inl h0
   · exact .inr (hp (by omega))
theorem rpenc_spec (l : List Rec) (hl : ∀ x ∈ l, x.can) (hlen : l.length ≤ 1000000) : PSpec Tryz.prog 47 [encRs l] (K.encS (l.map recE)) := by
 refine PSpec.of_vc (fun Γ => more6 false Γ.P Γ.fx) (fun Γ => more6_ok) Tryz.func47 rfl Tryz.call47 (by simp) ?_
 rintro ⟨P, N, w0, X, β0, fx, y, hy, pk, df⟩ rfl rfl rfl hoff rfl; change y.on = false at hoff
 repeat' ((try conv => whnf); first | refine aq bd ?_ | fail)
 refine Wp.loop (fun k : Nat => ⟨[(0, .pure (encRs l)), (3, .lsl 300 0 (l.take k).length), (4, .int k)], [(300, some (.row 1 ((l.take k).map fun r => [encB (recE r)])))], [300]⟩)
   (fun k => k ≤ l.length) (fun k => l.length - k) 0 (Le.map [(300, 7)] ?_ ?_ rfl rfl rfl rfl) (by omega) ?_
 · (repeat' (first | exact trivial | refine aq ?_ ?_ | exact oq | fail))
 · (repeat' (first | exact trivial | exact rfl | refine aq ?_ ?_ | fail))
 intro k hk
 by_cases hk2 : k < l.length
 · have hc := hl _ (List.getElem_mem hk2)
   have q := rvEncode_spec l[k] hc.1 (by have := hc.2; omega)
   refine code_sound (more := more6 false _ _) more6_ok FOK.wide _ ?_
   repeat' ((try conv => whnf); first | (first | refine k3 ?_ ?_ | refine k4 ?_ ?_) <;> intro hb <;> (try rw [lM] at hb) <;> try (exfalso; omega) | refine s5 nm nm ?_ | fail)
   refine .inl ⟨_, q, ?_⟩
   repeat' ((try conv => whnf); first | refine aq rfl ?_ | refine s4 nm ?_ | refine aq bd ?_ | fail)
   have hlt : (l.take k).length = k := by simp; omega
   refine ⟨k + 1, Le.map [(300, 25)] ?_ ?_ rfl rfl rfl rfl, by omega, by omega⟩
   all_goals (repeat' (first | exact trivial | refine aq ?_ ?_ | exact oq | exact SubA.lsl ls | fail))
   all_goals first
     | (refine SubA.lsl ?_; focus (simp; omega))
     | (refine rowEq ?_; focus (rw [List.take_succ_eq_append_getElem hk2, List.map_append, List.map_singleton]; try rfl))
     | (refine SubA.int ?_; omega)
     | skip
 · have ek : k = l.length := by omega
   subst ek
   refine code_sound (more := more6 false _ _) more6_ok FOK.wide _ ?_
   repeat' ((try conv => whnf); first | (first | refine k3 ?_ ?_ | refine k4 ?_ ?_) <;> intro hb <;> (try rw [lM] at hb) <;> try (exfalso; omega) | fail)
   exact sub_sl (by simp [List.take_of_length_le, Function.comp_def]; try (intros; rfl))
theorem jr_len {d : K.Disk} (h : d.check = 0) : (jr d).records.length ≤ 1000000 := by
 have h1 := occ_le h
 have h2 := (good_of h).2.1
 have h3 : ∀ l : List (List UInt8), l.length ≤ K.occN l := by
   intro l
   induction l with
   | nil => exact Nat.zero_le _
   | cons x l ih => simp only [K.occN, List.map_cons, List.sum_cons, List.length_cons] at ih ⊢; have := K.pieces_pos x.length; omega
 have h4 := h3 (jr d).records
 simp only [jr] at h4 ⊢
 omega
theorem rchk_spec (p : Party) (h : p.can) : PSpec Tryz.prog 11 [.agg (encP p)] (.int p.check) := by
 have hiff := valid_iff p
 have hlen := h.len
 have hj := h.jour
 have hjl : p.jour.records.length ≤ 1000000 := by
   have h4 : ∀ l : List (List UInt8), l.length ≤ K.lensN l := by
     intro l
     induction l with
     | nil => exact Nat.zero_le _
     | cons x l ih => simp only [K.lensN, List.map_cons, List.sum_cons, List.length_cons] at ih ⊢; omega
   have := h4 p.jour.records
   omega
 have q1 := rpformed_spec p
 have q2 := rpown_spec p.log p.id h.log (by omega)
 have q3 := K.rcheck_spec p.jour (by omega)
 have q4 := rpenc_spec p.log h.log (by omega)
 have q5 := K.sameRecords_spec p.jour.records (p.log.map recE) hjl
 have q6 := K.refRestart_spec p.disk
 have q7 := K.ropen_spec (rst p.disk)
 simp only [pc2, pc3, pc4] at hiff
 obtain ⟨b1, e1⟩ : ∃ b, b = decide p.formed := ⟨_, rfl⟩
 obtain ⟨b2, e2⟩ : ∃ b, b = ownedB p.id p.log := ⟨_, rfl⟩
 obtain ⟨c3, e3⟩ : ∃ b, b = p.jour.check := ⟨_, rfl⟩
 obtain ⟨b4, e4⟩ : ∃ b, b = (p.jour.records == p.log.map recE) := ⟨_, rfl⟩
 rw [← e1, ← e2, ← e3, ← e4] at hiff
 rw [← e1] at q1
 rw [← e2] at q2
 rw [← e3] at q3
 rw [← e4] at q5
 have fail : ¬ p.valid → PSub (.val (.int .i64 510)) (.int p.check) := fun hn => by rw [check_not hn]; exact PSub.refl _
 have okk : p.valid → PSub (.val (.int .i64 0)) (.int p.check) := fun hn => by rw [check_valid hn]; exact PSub.refl _
 by_cases hf : p.formed
 rotate_left
 · rw [decide_eq_false hf] at e1
   refine PSpec.of_vc (fun Γ => more6 false Γ.P Γ.fx) (fun Γ => more6_ok) Tryz.func11 rfl Tryz.call11 (by simp) ?_
   rintro ⟨P, N, w0, X, β0, fx, y, hy, pk, df⟩ rfl rfl rfl hoff rfl; change y.on = false at hoff
   skip
   refine Wp.draw (more := more6 true _ _) more6_det more6_ok FOK.wide rfl (by decide +kernel) (by conv => lhs; reduce) ?_
   skip
   refine ⟨_, q1, ?_⟩
   repeat' ((try conv => whnf); first | refine k5 (fun hb => ?_) fun hb => ?_ | fail)
   all_goals first | exact fail (fun hv => hf hv.formed) | (exfalso; simp_all; done)
 · rw [open_rst hf.2.2] at q7 hiff
   have hjl2 := jr_len hf.2.2
   obtain ⟨J, hJ⟩ : ∃ J, J = jr p.disk := ⟨_, rfl⟩
   rw [← hJ] at q7 hiff hjl2
   have q8 := K.jsame_spec J p.jour hjl2
   obtain ⟨b5, e5⟩ : ∃ b, b = J.same p.jour := ⟨_, rfl⟩
   obtain ⟨z, hz⟩ : ∃ z : Int, z = 0 := ⟨_, rfl⟩
   rw [← e5] at q8
   dsimp only at hiff
   rw [← e5] at hiff
   rw [← hz] at q7
   have q7' : PSpec Tryz.prog 48 [K.encD (rst p.disk)] (.tup [K.encJ J, .int z]) := q7
   refine PSpec.of_vc (fun Γ => more6 false Γ.P Γ.fx) (fun Γ => more6_ok) Tryz.func11 rfl Tryz.call11 (by simp) ?_
   rintro ⟨P, N, w0, X, β0, fx, y, hy, pk, df⟩ rfl rfl rfl hoff rfl; change y.on = false at hoff
   skip
   refine Wp.draw (more := more6 true _ _) more6_det more6_ok FOK.wide rfl (by decide +kernel) (by conv => lhs; reduce) ?_
   skip
   refine ⟨_, q1, ?_⟩
   repeat' ((try conv => whnf); first | refine k5 (fun hb => ?_) fun hb => ?_ | fail)
   rotate_left
   · exact fail (fun hv => by have := hiff.1 hv; simp_all)
   refine ⟨_, q2, ?_⟩
   repeat' ((try conv => whnf); first | refine k5 (fun hb => ?_) fun hb => ?_ | fail)
   rotate_left
   · exact fail (fun hv => by have := hiff.1 hv; simp_all)
   refine ⟨_, q3, ?_⟩
   repeat' ((try conv => whnf); first | (first | refine k3 ?_ ?_ | refine k4 ?_ ?_) <;> intro hb <;> (try rw [lM] at hb) <;> try (exfalso; omega) | fail)
   rotate_left
   any_goals exact fail (fun hv => by have := hiff.1 hv; simp_all)
   refine ⟨_, q4, ?_⟩
   repeat' ((try conv => whnf); first | refine aq rfl ?_ | fail)
   refine ⟨_, q5, ?_⟩
   repeat' ((try conv => whnf); first | refine k5 (fun hb => ?_) fun hb => ?_ | fail)
   rotate_left
   any_goals exact fail (fun hv => by have := hiff.1 hv; simp_all)
   refine .inl ⟨_, q6, ?_⟩
   repeat' ((try conv => whnf); first | refine aq rfl ?_ | fail)
   refine .inl ⟨_, q7', ?_⟩
   repeat' ((try conv => whnf); first | (first | refine k3 ?_ ?_ | refine k4 ?_ ?_) <;> intro hb <;> (try rw [lM] at hb) <;> try (exfalso; omega) | refine k5 (fun hb => ?_) fun hb => ?_ | refine aq rfl ?_ | fail)
   · refine .inl ⟨_, q8, ?_⟩
     repeat' ((try conv => whnf); first | refine k5 (fun hb => ?_) fun hb => ?_ | fail)
     all_goals first
       | (refine fail (fun hv => ?_); focus (have := hiff.1 hv; simp_all; done))
       | (refine fail (fun hv => ?_); focus (have := hiff.1 hv; simp_all; omega))
       | (refine okk (hiff.2 ?_); focus (simp_all; done))
       | (refine okk (hiff.2 ?_)
          have hpe : p.disk.pending = [] := List.eq_nil_of_length_eq_zero (by omega)
          focus (simp_all; done))
   · all_goals first
       | (refine fail (fun hv => ?_); focus (have := hiff.1 hv; simp_all; done))
       | (refine fail (fun hv => ?_); focus (have := hiff.1 hv; simp_all; omega))
       | (refine okk (hiff.2 ?_); focus (simp_all; done))
       | (refine okk (hiff.2 ?_)
          have hpe : p.disk.pending = [] := List.eq_nil_of_length_eq_zero (by omega)
          focus (simp_all; done))
   · refine .inl ⟨_, q8, ?_⟩
     repeat' ((try conv => whnf); first | refine k5 (fun hb => ?_) fun hb => ?_ | fail)
     all_goals first
       | (refine fail (fun hv => ?_); focus (have := hiff.1 hv; simp_all; done))
       | (refine fail (fun hv => ?_); focus (have := hiff.1 hv; simp_all; omega))
       | (refine okk (hiff.2 ?_); focus (simp_all; done))
       | (refine okk (hiff.2 ?_)
          have hpe : p.disk.pending = [] := List.eq_nil_of_length_eq_zero (by omega)
          focus (simp_all; done))
end Go.Proofs.YtjfjpnefohbobaaGreatDoor
/- Parties: the reference's New, Note, Crash, Restart, Count. Conditions: none. -/
namespace Go.Proofs.YtjfjpnefohbobaaGreatDoor
open Go.Avc
attribute [local irreducible] PSub Wp PSpec Le Need Both
attribute [local irreducible] recE recD tagged sha headOf decF decode addR
end Go.Proofs.YtjfjpnefohbobaaGreatDoor
