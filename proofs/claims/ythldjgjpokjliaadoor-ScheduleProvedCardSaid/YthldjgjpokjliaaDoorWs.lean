/- Schedules: the main law: what cannot be served is proved by needs with too few copies. Conditions: none. -/
import Derived.Test.YthldjgjpokjliaaDoorWd
import Derived.Test.YthldjgjpokjliaaDoorWr
set_option linter.unusedSimpArgs false
set_option linter.unusedVariables false
set_option maxRecDepth 20000
set_option maxHeartbeats 4000000
namespace Go.Proofs.YthldjgjpokjliaaDoor
open Go.Avc
theorem hallO_spec {S : List Sk} {D : List Nd} (h : rok S) (hc : ∀ s ∈ S, 0 ≤ s.copies) : (hallO S D = none ∧ (lgR D S).length = D.length) ∨ ∃ w, hallO S D = some w ∧ (lgR D S).length < D.length ∧ incN w 0 ((lgR D S).length + 1) ∧ few S D w := by
 have hlen := lgR_len (D := D) h hc
 have hle := srvL_le (msS D S) (cpS S)
 rw [msS_len] at hle
 unfold hallO
 by_cases he : (lgR D S).length = D.length
 · rw [if_pos he]; exact .inl ⟨rfl, he⟩
 · rw [if_neg he]
   right
   obtain ⟨w, e, hw⟩ := hallR_spec (S := S) (D := D) hc (B := (lgR D S).length + 1) (by rw [hlen]; exact hall_ex h hc (by omega))
   exact ⟨w, e, by omega, hw.1, hw.2.1⟩
theorem incN_next {w : List Nat} {a b i : Nat} (h : incN w a b) (hi : i + 1 < w.length) : w.getD i 0 < w.getD (i + 1) 0 := by
 rw [getD_at (by omega), getD_at hi]
 exact List.pairwise_iff_getElem.1 h.1 i (i + 1) (by omega) hi (Nat.lt_succ_self i)
attribute [local irreducible] PSub Wp PSpec Le Need Both
attribute [local irreducible] lgR hallO chkE
theorem proved_law (S : List Sk) (D : List Nd) (h : Reach S D) : PSpec Tryd.prog 6 [encSks S, encNds D] (.bool true) := by
 obtain ⟨hS, hD, hn, h48⟩ := h
 have lS : (S.map encSk).length = S.length := List.length_map ..
 have lD : (D.map encNd).length = D.length := List.length_map ..
 have qf := few_in_spec S D hS hD hn
 by_cases hf : fewIn S D
 case neg =>
   rw [decide_eq_false hf] at qf
   refine PSpec.of_vc (fun Γ => more8 false Γ.P Γ.fx) (fun Γ => more8_ok) Tryd.func6 rfl Tryd.call6 (by simp) ?_
   rintro ⟨P, N, w0, X, β0, fx, y, hy, pk, df⟩ rfl rfl rfl hoff rfl; change y.on = false at hoff
   skip
   refine .inl ⟨_, sane_spec, ?_⟩
   skip
   refine .inl ⟨_, qf, ?_⟩
   skip
   exact PSub.refl _
 rw [decide_eq_true hf] at qf
 have hsm := fewIn_small hf
 have q1 := Longest_spec S D hsm
 have q2 := Hall_spec S D hsm hf.2.2
 by_cases hk : chkP S D
 case neg =>
   rw [show lgE S D = .tup [encIs [], .int 320] from if_neg hk] at q1
   rw [show hallE S D = .tup [encIs [], .bool false, .int 320] from if_neg hk] at q2
   refine PSpec.of_vc (fun Γ => more8 false Γ.P Γ.fx) (fun Γ => more8_ok) Tryd.func6 rfl Tryd.call6 (by simp) ?_
   rintro ⟨P, N, w0, X, β0, fx, y, hy, pk, df⟩ rfl rfl rfl hoff rfl; change y.on = false at hoff
   skip
   refine .inl ⟨_, sane_spec, ?_⟩
   skip
   refine .inl ⟨_, qf, ?_⟩
   skip
   refine .inl ⟨_, q1, ?_⟩
   repeat' ((try conv => whnf); first|refine aq rfl ?_|fail)
   refine .inl ⟨_, q2, ?_⟩
   repeat' ((try conv => whnf); first|refine aq rfl ?_|fail)
   exact PSub.refl _
 rw [show lgE S D = .tup [encIs (lgR D S), .int 0] from if_pos hk] at q1
 rw [show hallE S D = _ from if_pos hk] at q2
 obtain ⟨hr, hc0⟩ := chk_rok hk
 have hcs := chk_small hk
 have hlb := lgR_bd hk
 have hD6 := hf.2.2
 have hS4 := hf.2.1
 have qs := serves_spec S D (lgR D S) hr.1 hsm.hS hsm.hD hsm.hn (by omega)
 rw [decide_eq_true (lgR_svc hr hc0)] at qs
 have ho := hallO_spec (D := D) hr hc0
 obtain ⟨L, hL⟩ : ∃ L, L = lgR D S := ⟨_, rfl⟩
 rw [← hL] at q1 hlb qs ho
 have lL : (L.map fun x => [PV.int x]).length = L.length := List.length_map ..
 rcases ho with ⟨ho, hfull⟩ | ⟨w, ho, hlt, hinc, hfew⟩
 · rw [ho] at q2
   refine PSpec.of_vc (fun Γ => more8 false Γ.P Γ.fx) (fun Γ => more8_ok) Tryd.func6 rfl Tryd.call6 (by simp) ?_
   rintro ⟨P, N, w0, X, β0, fx, y, hy, pk, df⟩ rfl rfl rfl hoff rfl; change y.on = false at hoff
   skip
   refine .inl ⟨_, sane_spec, ?_⟩
   skip
   refine .inl ⟨_, qf, ?_⟩
   skip
   refine .inl ⟨_, q1, ?_⟩
   repeat' ((try conv => whnf); first|refine aq rfl ?_|fail)
   refine .inl ⟨_, q2, ?_⟩
   repeat' ((try conv => whnf); first|refine aq rfl ?_|fail)
   refine .inl ⟨_, qs, ?_⟩
   repeat' ((try conv => whnf); first|refine k1 (fun hb => ?_) fun hb => ?_|fail)
   rotate_left
   · exact absurd (decide_eq_false (by simp only [lL, lD]; omega)).symm hb
   exact PSub.refl _
 · rw [ho] at q2
   have hwl := incN_len hinc
   have lW1 : (natI w).length = w.length := natI_len w
   have lW : ((natI w).map fun x => [PV.int x]).length = w.length := by rw [List.length_map, natI_len]
   refine PSpec.of_vc (fun Γ => more8 false Γ.P Γ.fx) (fun Γ => more8_ok) Tryd.func6 rfl Tryd.call6 (by simp) ?_
   rintro ⟨P, N, w0, X, β0, fx, y, hy, pk, df⟩ rfl rfl rfl hoff rfl; change y.on = false at hoff
   skip
   refine .inl ⟨_, sane_spec, ?_⟩
   skip
   refine .inl ⟨_, qf, ?_⟩
   skip
   refine .inl ⟨_, q1, ?_⟩
   repeat' ((try conv => whnf); first|refine aq rfl ?_|fail)
   refine .inl ⟨_, q2, ?_⟩
   repeat' ((try conv => whnf); first|refine aq rfl ?_|fail)
   refine .inl ⟨_, qs, ?_⟩
   repeat' ((try conv => whnf); first|refine k1 (fun hb => ?_) fun hb => ?_|fail)
   rotate_left
   · exact absurd (decide_eq_true (by simp only [lL, lD]; omega)).symm hb
   refine Wp.loop (fun i : Nat => ⟨[(0, .pure (encSks S)), (1, .pure (encNds D)), (5, .pure (encIs L)), (7, .pure (encIs (natI w))), (78, .pure (encIs (natI w))), (79, .int w.length), (80, .int i)], [], []⟩) (fun i => i ≤ w.length) (fun i => w.length - i) 0
     (Le.of ?_ ?_ rfl rfl rfl) (Nat.zero_le _) ?_
   · (repeat' (first|exact trivial|refine aq ?_ ?_|exact oq|exact l1 bd|fail))
   · (repeat' (first|exact trivial|fail))
   rintro i hi
   by_cases hi2 : i < w.length
   · have hx := natI_get (w := w) (k := i) (by omega)
     have hxw := hinc.2 _ (getD_mem hi2)
     by_cases h0 : i = 0
     · have hb1 : 0 ≤ (natI w)[i] ∧ (natI w)[i] ≤ L.length := by rw [hx]; omega
       refine code_sound (more := more8 false _ _) more8_ok FOK.wide _ ?_
       repeat' ((try conv => whnf); first|(first|refine k3 ?_ ?_|refine k4 ?_ ?_) <;> intro hb <;> (try rw [lM] at hb) <;> try (exfalso; omega)|refine s4 nm ?_|refine s5 nm nm ?_|fail)
       exact ⟨i + 1, Le.of (by (repeat' (first|exact trivial|refine aq ?_ ?_|exact oq|fail))) (by (repeat' (first|exact trivial|fail))) rfl rfl rfl, by omega, by omega⟩
     · have hb1 : 0 ≤ (natI w)[i] ∧ (natI w)[i] ≤ L.length := by rw [hx]; omega
       have en : ((i : Int) - 1).toNat = i - 1 := by omega
       have hpt : ((i : Int) - 1).toNat < (natI w).length := by omega
       have hpr := natI_get (w := w) (k := ((i : Int) - 1).toNat) hpt
       have hnx := incN_next hinc (i := i - 1) (by omega)
       rw [Nat.sub_add_cancel (by omega)] at hnx
       have hlt2 : (natI w)[((i : Int) - 1).toNat] < (natI w)[i] := by rw [hpr, hx, en]; omega
       refine code_sound (more := more8 false _ _) more8_ok FOK.wide _ ?_
       repeat' ((try conv => whnf); first|(first|refine k3 ?_ ?_|refine k4 ?_ ?_) <;> intro hb <;> (try rw [lM] at hb) <;> try (exfalso; omega)|refine s4 nm ?_|refine s5 nm nm ?_|refine s6 nm nm ?_|fail)
       exact ⟨i + 1, Le.of (by (repeat' (first|exact trivial|refine aq ?_ ?_|exact oq|fail))) (by (repeat' (first|exact trivial|fail))) rfl rfl rfl, by omega, by omega⟩
   · have e : i = w.length := by omega
     subst e
     refine code_sound (more := more8 false _ _) more8_ok FOK.wide _ ?_
     repeat' ((try conv => whnf); first|(first|refine k3 ?_ ?_|refine k4 ?_ ?_) <;> intro hb <;> (try rw [lM] at hb) <;> try (exfalso; omega)|fail)
     refine Wp.loop (fun i : Nat => ⟨[(1, .pure (encNds D)), (7, .pure (encIs (natI w))), (12, .int (cpT S D w i)), (107, .pure (encSks S)), (108, .int S.length), (109, .int i)], [], []⟩) (fun i => i ≤ S.length) (fun i => S.length - i) 0
       (Le.of ?_ ?_ rfl rfl rfl) (Nat.zero_le _) ?_
     · (repeat' (first|exact trivial|refine aq ?_ ?_|exact oq|exact l1 bd|fail))
     · (repeat' (first|exact trivial|fail))
     rintro i hi
     by_cases hi2 : i < S.length
     · have hnx := cpT_next (D := D) (w := w) hi2
       have hb := cpT_bd (D := D) (w := w) hcs i hi
       have hci := hcs _ (List.getElem_mem hi2)
       obtain ⟨t, ht⟩ : ∃ t, t = cpT S D w i := ⟨_, rfl⟩
       rw [← ht] at hnx hb ⊢
       refine code_sound (more := more8 false _ _) more8_ok FOK.wide _ ?_
       repeat' ((try conv => whnf); first|(first|refine k3 ?_ ?_|refine k4 ?_ ?_) <;> intro hb <;> (try rw [lM] at hb) <;> try (exfalso; omega)|refine aq rfl ?_|refine s5 nm nm ?_|fail)
       refine Wp.loop (fun k : Nat => ⟨[(1, .pure (encNds D)), (7, .pure (encIs (natI w))), (12, .int t), (14, .loc 14 0 0), (107, .pure (encSks S)), (108, .int S.length), (109, .int i), (113, .pure (encIs (natI w))), (114, .int w.length), (115, .int k)], [(14, some (.box (pures (encSk S[i]))))], [14]⟩) (fun k => k ≤ w.length ∧ ∀ j, j < k → usesB (D.getD (w.getD j 0) nd0) S[i] = false) (fun k => w.length - k) 0
         (Le.of ?_ ?_ rfl rfl rfl) ⟨Nat.zero_le _, fun j hj => absurd hj (Nat.not_lt_zero _)⟩ ?_
       · (repeat' (first|exact trivial|refine aq ?_ ?_|exact oq|exact l1 bd|fail))
       · (repeat' (first|exact trivial|refine aq ?_ ?_|refine Exists.intro _ (aq rfl ?_)|exact oq|fail))
       rintro k ⟨hk1, hno⟩
       by_cases hk2 : k < w.length
       · have hkW : k < (natI w).length := by omega
         have hx := natI_get hkW
         have hxm := (hinc.2 _ (getD_mem hk2)).2
         have hxl : ((natI w)[k]).toNat < D.length := by rw [hx]; omega
         have hx0 : 0 ≤ (natI w)[k] := by rw [hx]; omega
         have hDx : D[((natI w)[k]).toNat] = D.getD (w.getD k 0) nd0 := by
           rw [getD_at (by omega : w.getD k 0 < D.length)]
           congr 1
           rw [hx]; omega
         have qu : PSpec Tryd.prog 22 [.agg (encNd (D[((natI w)[k]).toNat])), .agg (encSk S[i])] (.bool (usesB (D.getD (w.getD k 0) nd0) S[i])) := by
           rw [hDx]
           refine uses_spec _ _ ?_
           rw [getD_at (by omega : w.getD k 0 < D.length)]
           have := hn _ (List.getElem_mem (by omega : w.getD k 0 < D.length))
           omega
         cases hu : usesB (D.getD (w.getD k 0) nd0) S[i] with
         | true =>
           rw [hu] at qu
           have hus : cpTm D w S[i] = S[i].copies := if_pos (List.any_eq_true.2 ⟨_, getD_mem hk2, hu⟩)
           rw [hus] at hnx
           refine code_sound (more := more8 false _ _) more8_ok FOK.wide _ ?_
           repeat' ((try conv => whnf); first|(first|refine k3 ?_ ?_|refine k4 ?_ ?_) <;> intro hb <;> (try rw [lM] at hb) <;> try (exfalso; omega)|refine s5 nm nm ?_|fail)
           refine Wp.draw (more := more8 true _ _) more8_det more8_ok FOK.wide rfl (by decide +kernel) (by conv => lhs; reduce) ?_
           repeat' ((try conv => whnf); first|refine s6 nm nm ?_|fail)
           refine ⟨_, qu, ?_⟩
           repeat' ((try conv => whnf); first|refine s4 nm ?_|fail)
           refine ⟨i + 1, Le.of ?_ (by (repeat' (first|exact trivial|fail))) rfl rfl rfl, by omega, by omega⟩
           rw [hnx]
           (repeat' (first|exact trivial|refine aq ?_ ?_|exact oq|fail))
         | false =>
           rw [hu] at qu
           refine code_sound (more := more8 false _ _) more8_ok FOK.wide _ ?_
           repeat' ((try conv => whnf); first|(first|refine k3 ?_ ?_|refine k4 ?_ ?_) <;> intro hb <;> (try rw [lM] at hb) <;> try (exfalso; omega)|refine s5 nm nm ?_|fail)
           refine Wp.draw (more := more8 true _ _) more8_det more8_ok FOK.wide rfl (by decide +kernel) (by conv => lhs; reduce) ?_
           repeat' ((try conv => whnf); first|refine s6 nm nm ?_|fail)
           refine ⟨_, qu, ?_⟩
           repeat' ((try conv => whnf); first|refine s4 nm ?_|fail)
           refine ⟨k + 1, Le.of (by (repeat' (first|exact trivial|refine aq ?_ ?_|exact oq|fail))) (by (repeat' (first|exact trivial|refine aq ?_ ?_|refine Exists.intro _ (aq rfl ?_)|exact oq|fail))) rfl rfl rfl, ⟨by omega, fun j hj => ?_⟩, by omega⟩
           rcases Nat.lt_succ_iff_lt_or_eq.1 hj with h1 | rfl
           · exact hno j h1
           · exact hu
       · have e : k = w.length := by omega
         subst e
         have hus : cpTm D w S[i] = 0 := if_neg (by
           rw [Bool.not_eq_true]
           refine List.any_eq_false.2 fun x hx => ?_
           obtain ⟨j, hj, rfl⟩ := List.getElem_of_mem hx
           have := hno j hj
           rw [getD_at hj] at this
           rw [this]; exact Bool.false_ne_true)
         rw [hus, Int.add_zero] at hnx
         refine code_sound (more := more8 false _ _) more8_ok FOK.wide _ ?_
         repeat' ((try conv => whnf); first|(first|refine k3 ?_ ?_|refine k4 ?_ ?_) <;> intro hb <;> (try rw [lM] at hb) <;> try (exfalso; omega)|refine s4 nm ?_|fail)
         refine ⟨i + 1, Le.of ?_ (by (repeat' (first|exact trivial|fail))) rfl rfl rfl, by omega, by omega⟩
         rw [hnx]
         (repeat' (first|exact trivial|refine aq ?_ ?_|exact oq|fail))
     · have e : i = S.length := by omega
       subst e
       rw [cpT_all]
       have hfw : cpU S D w < (w.length : Int) := hfew
       refine code_sound (more := more8 false _ _) more8_ok FOK.wide _ ?_
       repeat' ((try conv => whnf); first|(first|refine k3 ?_ ?_|refine k4 ?_ ?_) <;> intro hb <;> (try rw [lM] at hb) <;> try (exfalso; omega)|fail)
       exact PSub.val_bool (by simp only [lW]; exact decide_eq_true hfw)
end Go.Proofs.YthldjgjpokjliaaDoor
