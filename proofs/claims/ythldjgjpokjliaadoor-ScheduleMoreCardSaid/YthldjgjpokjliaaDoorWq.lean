/- Schedules: the laws of Longest and Hall. Conditions: none. -/
import Derived.Test.YthldjgjpokjliaaDoorWd
import Derived.Test.YthldjgjpokjliaaDoorWp
set_option linter.unusedSimpArgs false
set_option linter.unusedVariables false
set_option maxRecDepth 20000
set_option maxHeartbeats 4000000
namespace Go.Proofs.YthldjgjpokjliaaDoor
open Go.Avc
structure Reach (S : List Sk) (D : List Nd) : Prop where
 hS : S.length ≤ 140737488355328
 hD : D.length ≤ 140737488355328
 hn : ∀ n ∈ D, n.rounds.length ≤ 140737488355328
 h48 : D.length * 48 ≤ 140737488351232
theorem lgR_bd {S : List Sk} {D : List Nd} (h : chkP S D) : (lgR D S).length ≤ D.length := by
 obtain ⟨hr, hc0⟩ := chk_rok h
 rw [lgR_len hr hc0]
 have := srvL_le (msS D S) (cpS S)
 rwa [msS_len] at this
theorem hallO_bd {S : List Sk} {D : List Nd} (h : chkP S D) {l : List Nat} (hl : hallO S D = some l) : l.length ≤ D.length := by
 obtain ⟨hr, hc0⟩ := chk_rok h
 unfold hallO at hl
 split at hl
 · cases hl
 · rename_i h1
   have hb := lgR_bd h
   have hlen := lgR_len (D := D) hr hc0
   obtain ⟨w, e, hw⟩ := hallR_spec (S := S) (D := D) hc0 (B := (lgR D S).length + 1) (by rw [hlen]; exact hall_ex hr hc0 (by omega))
   rw [e] at hl
   obtain rfl := Option.some.inj hl
   have := incN_len hw.1
   omega
attribute [local irreducible] PSub Wp PSpec Le Need Both
attribute [local irreducible] lgR hallO chkE
theorem longestSpec_law (S : List Sk) (D : List Nd) (h : Reach S D) : PSpec Tryd.prog 3 [encSks S, encNds D] (.bool true) := by
 obtain ⟨hS, hD, hn, h48⟩ := h
 have qf := few_in_spec S D hS hD hn
 by_cases hf : fewIn S D
 case neg =>
   rw [decide_eq_false hf] at qf
   refine PSpec.of_vc (fun Γ => more8 false Γ.P Γ.fx) (fun Γ => more8_ok) Tryd.func3 rfl Tryd.call3 (by simp) ?_
   rintro ⟨P, N, w0, X, β0, fx, y, hy, pk, df⟩ rfl rfl rfl hoff rfl; change y.on = false at hoff
   skip
   refine .inl ⟨_, sane_spec, ?_⟩
   skip
   refine .inl ⟨_, qf, ?_⟩
   skip
   exact PSub.refl _
 rw [decide_eq_true hf] at qf
 have hsm := fewIn_small hf
 have q1 := Longest_spec S D hsm
 have q2 := rLongest_spec S D hsm
 have c1 := check_spec S D hS hD hn
 have c2 := rcheck_spec S D hS hD hn
 have hl : (if chkP S D then lgR D S else []).length ≤ 6 := by
   split
   · rename_i hk
     have := lgR_bd hk
     have := hf.2.2
     omega
   · exact Nat.zero_le _
 have e1 : lgE S D = .tup [encIs (if chkP S D then lgR D S else []), .int (chkE S D)] := by
   unfold lgE chkE
   split <;> rfl
 rw [e1] at q1 q2
 obtain ⟨L, hL⟩ : ∃ L, L = if chkP S D then lgR D S else [] := ⟨_, rfl⟩
 rw [← hL] at hl q1 q2
 have qs := sameInts_spec L L (by omega)
 rw [decide_eq_true rfl] at qs
 refine PSpec.of_vc (fun Γ => more8 false Γ.P Γ.fx) (fun Γ => more8_ok) Tryd.func3 rfl Tryd.call3 (by simp) ?_
 rintro ⟨P, N, w0, X, β0, fx, y, hy, pk, df⟩ rfl rfl rfl hoff rfl; change y.on = false at hoff
 skip
 refine .inl ⟨_, sane_spec, ?_⟩
 skip
 refine .inl ⟨_, qf, ?_⟩
 skip
 refine .inl ⟨_, q1, ?_⟩
 repeat' ((try conv => whnf); first|refine aq rfl ?_|fail)
 refine .inl ⟨_, q2, ?_⟩
 repeat' ((try conv => whnf); first|refine aq rfl ?_|fail)
 refine .inl ⟨_, c1, ?_⟩
 skip
 refine .inl ⟨_, c2, ?_⟩
 repeat' ((try conv => whnf); first|(first|refine k3 ?_ ?_|refine k4 ?_ ?_) <;> intro hb <;> (try rw [lM] at hb) <;> try (exfalso; omega)|fail)
 refine .inl ⟨_, qs, ?_⟩
 skip
 exact PSub.val_bool (by simp)
theorem hallSpec_law (S : List Sk) (D : List Nd) (h : Reach S D) : PSpec Tryd.prog 4 [encSks S, encNds D] (.bool true) := by
 obtain ⟨hS, hD, hn, h48⟩ := h
 have qf := few_in_spec S D hS hD hn
 by_cases hf : fewIn S D
 case neg =>
   rw [decide_eq_false hf] at qf
   refine PSpec.of_vc (fun Γ => more8 false Γ.P Γ.fx) (fun Γ => more8_ok) Tryd.func4 rfl Tryd.call4 (by simp) ?_
   rintro ⟨P, N, w0, X, β0, fx, y, hy, pk, df⟩ rfl rfl rfl hoff rfl; change y.on = false at hoff
   skip
   refine .inl ⟨_, sane_spec, ?_⟩
   skip
   refine .inl ⟨_, qf, ?_⟩
   skip
   exact PSub.refl _
 rw [decide_eq_true hf] at qf
 have hsm := fewIn_small hf
 have q1 := Hall_spec S D hsm hf.2.2
 have q2 := rhall_spec S D hsm
 obtain ⟨l, b, e, he, hl⟩ : ∃ (l : List Int) (b : Bool) (e : Int), hallE S D = .tup [encIs l, .bool b, .int e] ∧ l.length ≤ 6 := by
   unfold hallE
   split
   · rename_i hk
     cases ho : hallO S D with
     | none => exact ⟨[], false, 0, rfl, Nat.zero_le _⟩
     | some w => exact ⟨natI w, true, 0, rfl, by rw [natI_len]; have := hallO_bd hk ho; have := hf.2.2; omega⟩
   · exact ⟨[], false, 320, rfl, Nat.zero_le _⟩
 rw [he] at q1 q2
 have qs := sameInts_spec l l (by omega)
 rw [decide_eq_true rfl] at qs
 cases b with
 | true =>
   refine PSpec.of_vc (fun Γ => more8 false Γ.P Γ.fx) (fun Γ => more8_ok) Tryd.func4 rfl Tryd.call4 (by simp) ?_
   rintro ⟨P, N, w0, X, β0, fx, y, hy, pk, df⟩ rfl rfl rfl hoff rfl; change y.on = false at hoff
   skip
   refine .inl ⟨_, sane_spec, ?_⟩
   skip
   refine .inl ⟨_, qf, ?_⟩
   skip
   refine .inl ⟨_, q1, ?_⟩
   repeat' ((try conv => whnf); first|refine aq rfl ?_|fail)
   refine .inl ⟨_, q2, ?_⟩
   repeat' ((try conv => whnf); first|refine aq rfl ?_|fail)
   refine .inl ⟨_, qs, ?_⟩
   skip
   exact PSub.val_bool (by simp)
 | false =>
   refine PSpec.of_vc (fun Γ => more8 false Γ.P Γ.fx) (fun Γ => more8_ok) Tryd.func4 rfl Tryd.call4 (by simp) ?_
   rintro ⟨P, N, w0, X, β0, fx, y, hy, pk, df⟩ rfl rfl rfl hoff rfl; change y.on = false at hoff
   skip
   refine .inl ⟨_, sane_spec, ?_⟩
   skip
   refine .inl ⟨_, qf, ?_⟩
   skip
   refine .inl ⟨_, q1, ?_⟩
   repeat' ((try conv => whnf); first|refine aq rfl ?_|fail)
   refine .inl ⟨_, q2, ?_⟩
   repeat' ((try conv => whnf); first|refine aq rfl ?_|fail)
   refine .inl ⟨_, qs, ?_⟩
   skip
   exact PSub.val_bool (by simp)
def decR (S : List Sk) (D : List Nd) (x : Nd) (day : Int) : Int × Int × Int :=
 if chkP S D ∧ ndP x ∧ 0 ≤ day ∧ day < x.to then (if (dcT S D x S.length).2 < 0 then (0, 0, 321) else ((dcT S D x S.length).1, max 0 (x.from_ - day), 0)) else (0, 0, 320)
theorem decE_eq (S : List Sk) (D : List Nd) (x : Nd) (day : Int) : decE S D x day = .tup [.int (decR S D x day).1, .int (decR S D x day).2.1, .int (decR S D x day).2.2] := by
 unfold decE decR
 split
 · split <;> rfl
 · rfl
theorem few_app {S : List Sk} {D : List Nd} {x : Nd} (h : fewIn S (D ++ [x])) : fewIn S D ∧ x.rounds.length ≤ 6 ∧ D.length ≤ 5 := by
 have h3 := h.2.2
 simp only [List.length_append, List.length_singleton] at h3
 exact ⟨⟨fun n hn => h.1 n (List.mem_append_left _ hn), h.2.1, by omega⟩, h.1 x (by simp), by omega⟩
theorem app_row (D : List Nd) (x : Nd) : List.take ((([] : List (List PV)) ++ D.map encNd).length + (List.take 1 (List.drop 0 [encNd x])).length) (List.drop 0 ((([] : List (List PV)) ++ D.map encNd) ++ List.take 1 (List.drop 0 [encNd x]))) = (D ++ [x]).map encNd := by
 rw [List.drop_zero, List.take_of_length_le (by simp)]
 simp
theorem few_app_spec (S : List Sk) (D : List Nd) (x : Nd) (h : Reach S D) (hx : x.rounds.length ≤ 140737488355328) : PSpec Tryd.prog 11 [encSks S, .sl 4 (List.take ((([] : List (List PV)) ++ D.map encNd).length + (List.take 1 (List.drop 0 [encNd x])).length) (List.drop 0 ((([] : List (List PV)) ++ D.map encNd) ++ List.take 1 (List.drop 0 [encNd x]))))] (.bool (decide (fewIn S (D ++ [x])))) := by
 obtain ⟨hS, hD, hn, h48⟩ := h
 rw [app_row]
 refine few_in_spec S (D ++ [x]) hS (by simp; omega) fun n hm => ?_
 rcases List.mem_append.1 hm with h1 | h1
 · exact hn n h1
 · rw [List.mem_singleton.1 h1]; exact hx
theorem decideSpec_law (S : List Sk) (D : List Nd) (x : Nd) (day : Int) (h : Reach S D) (hx : x.rounds.length ≤ 140737488355328) : PSpec Tryd.prog 5 [encSks S, encNds D, .agg (encNd x), .int day] (.bool true) := by
 have qf := few_app_spec S D x h hx
 obtain ⟨hS, hD, hn, h48⟩ := h
 have lD : (D.map encNd).length = D.length := List.length_map ..
 by_cases hf : fewIn S (D ++ [x])
 case neg =>
   rw [decide_eq_false hf] at qf
   refine PSpec.of_vc (fun Γ => more8 false Γ.P Γ.fx) (fun Γ => more8_ok) Tryd.func5 rfl Tryd.call5 (by simp) ?_
   rintro ⟨P, N, w0, X, β0, fx, y, hy, pk, df⟩ rfl rfl rfl hoff rfl; change y.on = false at hoff
   skip
   refine .inl ⟨_, sane_spec, ?_⟩
   skip
   refine Wp.draw (more := more8 true _ _) more8_det more8_ok FOK.wide rfl (by decide +kernel) (by conv => lhs; reduce) ?_
   repeat' ((try conv => whnf); first|refine aq rfl ?_|refine aq bd ?_|fail)
   refine ⟨_, qf, ?_⟩
   skip
   exact PSub.refl _
 rw [decide_eq_true hf] at qf
 obtain ⟨hf1, hf2, hf3⟩ := few_app hf
 have hsm := fewIn_small hf1
 have q1 := Decide_spec S D x day hsm (by omega)
 have q2 := rDecide_spec S D x day hsm (by omega)
 rw [decE_eq] at q1 q2
 obtain ⟨a, ha⟩ : ∃ a, a = (decR S D x day).1 := ⟨_, rfl⟩
 obtain ⟨b, hb⟩ : ∃ b, b = (decR S D x day).2.1 := ⟨_, rfl⟩
 obtain ⟨c, hc⟩ : ∃ c, c = (decR S D x day).2.2 := ⟨_, rfl⟩
 rw [← ha, ← hb, ← hc] at q1 q2
 refine PSpec.of_vc (fun Γ => more8 false Γ.P Γ.fx) (fun Γ => more8_ok) Tryd.func5 rfl Tryd.call5 (by simp) ?_
 rintro ⟨P, N, w0, X, β0, fx, y, hy, pk, df⟩ rfl rfl rfl hoff rfl; change y.on = false at hoff
 skip
 refine .inl ⟨_, sane_spec, ?_⟩
 skip
 refine Wp.draw (more := more8 true _ _) more8_det more8_ok FOK.wide rfl (by decide +kernel) (by conv => lhs; reduce) ?_
 repeat' ((try conv => whnf); first|refine aq rfl ?_|refine aq bd ?_|fail)
 refine ⟨_, qf, ?_⟩
 skip
 refine .inl ⟨_, q1, ?_⟩
 skip
 refine .inl ⟨_, q1, ?_⟩
 skip
 refine .inl ⟨_, q2, ?_⟩
 repeat' ((try conv => whnf); first|(first|refine k3 ?_ ?_|refine k4 ?_ ?_) <;> intro hb <;> (try rw [lM] at hb) <;> try (exfalso; omega)|fail)
 exact PSub.val_bool (by simp)
end Go.Proofs.YthldjgjpokjliaaDoor
