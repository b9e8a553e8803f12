/- Schedules: the law More. Conditions: none. -/
import Derived.Test.YthldjgjpokjliaaDoorWd
import Derived.Test.YthldjgjpokjliaaDoorWs
set_option linter.unusedSimpArgs false
set_option linter.unusedVariables false
set_option maxRecDepth 20000
set_option maxHeartbeats 4000000
namespace Go.Proofs.YthldjgjpokjliaaDoor
open Go.Avc
theorem srvP_mono {S S1 : List Sk} {D D1 : List Nd} {rs : List Int} (h : srvP S D rs) (hl : D.length ≤ D1.length) (hs : ∀ j (hj : j < S.length), ∃ hj1 : j < S1.length, S1[j].round = S[j].round ∧ S[j].copies ≤ S1[j].copies ∧ ∀ i, usesB (D.getD i nd0) S[j] = true → usesB (D1.getD i nd0) S1[j] = true) : srvP S1 D1 rs := by
 refine ⟨Nat.le_trans h.1 hl, fun i hi => ?_⟩
 obtain ⟨j, hj, h1, h2, h3⟩ := h.2 i hi
 obtain ⟨hj1, g1, g2, g3⟩ := hs j hj
 exact ⟨j, hj1, by rw [g1, h1], g3 i h2, by omega⟩
def morS (z : Int) (s : Sk) : Sk := ⟨s.round, min (s.copies + 1) 16, max s.size z⟩
def easN (n : Nd) : Nd := ⟨n.from_, n.to, 0, n.rounds⟩
theorem mod_get {α : Type} {f : α → α} {l : List α} {i j : Nat} (h : j < l.length) : (l.modify i f)[j]'(by rw [List.length_modify]; exact h) = if i = j then f l[j] else l[j] := List.getElem_modify ..
theorem mod_all {α : Type} {f : α → α} {l : List α} {i : Nat} {p : α → Prop} (h : ∀ x ∈ l, p x) (hf : ∀ x ∈ l, p (f x)) : ∀ x ∈ l.modify i f, p x := fun x hx => by
 obtain ⟨j, hj, rfl⟩ := List.getElem_of_mem hx
 have hj' : j < l.length := by rwa [List.length_modify] at hj
 rw [mod_get hj']
 split
 · exact hf _ (List.getElem_mem hj')
 · exact h _ (List.getElem_mem hj')
theorem mod_map {α β : Type} {f : α → α} {g : α → β} (hf : ∀ x, g (f x) = g x) (l : List α) (i : Nat) : (l.modify i f).map g = l.map g := by
 refine List.ext_getElem (by simp) fun j h1 h2 => ?_
 have hj : j < l.length := by simpa using h2
 rw [List.getElem_map, List.getElem_map, mod_get hj]
 split
 · exact hf _
 · rfl
theorem chk_more {S : List Sk} {D : List Nd} (h : chkP S D) (i : Nat) (z : Int) : chkP (S.modify i (morS z)) D := by
 obtain ⟨h1, h2, h3, h4, h5⟩ := h
 refine ⟨by rw [List.length_modify]; exact h1, h2, mod_all h3 fun s hs => ?_, by rw [mod_map (f := morS z) (g := Sk.round) (fun _ => rfl)]; exact h4, h5⟩
 obtain ⟨g1, g2, g3⟩ := h3 s hs
 refine ⟨?_, ?_, ?_⟩
 · show 0 ≤ min (s.copies + 1) 16; omega
 · show min (s.copies + 1) 16 ≤ 16; omega
 · show 0 ≤ max s.size z; omega
theorem chk_easy {S : List Sk} {D : List Nd} (h : chkP S D) (i : Nat) : chkP S (D.modify i easN) := by
 obtain ⟨h1, h2, h3, h4, h5⟩ := h
 refine ⟨h1, by rw [List.length_modify]; exact h2, h3, h4, mod_all h5 fun n hn => ?_⟩
 obtain ⟨g1, g2, g3, g4, g5⟩ := h5 n hn
 exact ⟨g1, g2, g3, Int.le_refl 0, g5⟩
theorem chk_take {S : List Sk} {D : List Nd} (h : chkP S D) (n : Nat) : chkP S (D.take n) := by
 obtain ⟨h1, h2, h3, h4, h5⟩ := h
 exact ⟨h1, by rw [List.length_take]; omega, h3, h4, fun x hx => h5 x (List.mem_of_mem_take hx)⟩
theorem usesB_iff {n : Nd} {s : Sk} : usesB n s = true ↔ n.floor ≤ s.size ∧ s.round ∈ n.rounds := by
 unfold usesB
 rw [Bool.and_eq_true, List.any_eq_true]
 constructor
 · rintro ⟨h1, x, hx, h2⟩
   exact ⟨of_decide_eq_true h1, by rw [of_decide_eq_true h2]; exact hx⟩
 · rintro ⟨h1, h2⟩
   exact ⟨decide_eq_true h1, _, h2, decide_eq_true rfl⟩
theorem more_ge {S : List Sk} {D : List Nd} (h : chkP S D) (i : Nat) (z : Int) : (lgR D S).length ≤ (lgR D (S.modify i (morS z))).length := by
 obtain ⟨hr, hc⟩ := chk_rok h
 obtain ⟨hr1, hc1⟩ := chk_rok (chk_more h i z)
 refine lgR_most hr1 hc1 (srvP_mono (lgR_svc hr hc) (Nat.le_refl _) fun j hj => ⟨by rw [List.length_modify]; exact hj, ?_⟩)
 obtain ⟨g1, g2, g3⟩ := h.2.2.1 _ (List.getElem_mem hj)
 rw [mod_get hj]
 split
 · refine ⟨rfl, by show _ ≤ min (S[j].copies + 1) 16; omega, fun k hk => ?_⟩
   obtain ⟨k1, k2⟩ := usesB_iff.1 hk
   exact usesB_iff.2 ⟨by show _ ≤ max S[j].size z; omega, k2⟩
 · exact ⟨rfl, Int.le_refl _, fun k hk => hk⟩
theorem easy_ge {S : List Sk} {D : List Nd} (h : chkP S D) (i : Nat) : (lgR D S).length ≤ (lgR (D.modify i easN) S).length := by
 obtain ⟨hr, hc⟩ := chk_rok h
 refine lgR_most hr hc (srvP_mono (lgR_svc hr hc) (by rw [List.length_modify]; exact Nat.le_refl _) fun j hj => ⟨hj, rfl, Int.le_refl _, fun k hk => ?_⟩)
 obtain ⟨g1, g2, g3⟩ := h.2.2.1 _ (List.getElem_mem hj)
 by_cases hkl : k < D.length
 · rw [getD_at hkl] at hk
   rw [getD_at (by rw [List.length_modify]; exact hkl), mod_get hkl]
   obtain ⟨k1, k2⟩ := usesB_iff.1 hk
   split
   · exact usesB_iff.2 ⟨g3, k2⟩
   · exact hk
 · rw [List.getD_eq_getElem?_getD, List.getElem?_eq_none (by omega)] at hk
   simp [nd0, usesB] at hk
theorem take_eq {S : List Sk} {D : List Nd} (h : chkP S D) (n : Nat) (hn : n ≤ D.length) : (lgR (D.take n) S).length = min n (lgR D S).length := by
 obtain ⟨hr, hc⟩ := chk_rok h
 rw [lgR_len hr hc, lgR_len hr hc, msS_take]
 refine Nat.le_antisymm ?_ ?_
 · have h1 := srvL_le ((msS D S).take n) (cpS S)
   rw [List.length_take] at h1
   obtain ⟨l, hl, e⟩ := srvL_sat ((msS D S).take n) (cpS S)
   have h2 : Sat (msS D S) (cpS S) (srvL ((msS D S).take n) (cpS S)) := ⟨l, isSvc_untake hl, e⟩
   have := h2.le
   omega
 · obtain ⟨l, hl, e⟩ := (srvL_sat (msS D S) (cpS S)).mono (Nat.min_le_right n _)
   exact Sat.le ⟨l, isSvc_take hl (by omega), e⟩
theorem row_more {S : List Sk} {i : Nat} (hi : i < S.length) (z c m : Int) (hc : c = min (S[i].copies + 1) 16) (hm : m = max S[i].size z) :
   ((S.map encSk).set i (((S.map encSk).getD i []).set 1 (.int c))).set i ((((S.map encSk).set i (((S.map encSk).getD i []).set 1 (.int c))).getD i []).set 2 (.int m)) = (S.modify i (morS z)).map encSk := by
 have hil : i < (S.map encSk).length := by simpa using hi
 have e : (S.map encSk).getD i [] = encSk S[i] := by rw [getD_at hil, List.getElem_map]
 have e2 : ((S.map encSk).set i ((encSk S[i]).set 1 (.int c))).getD i [] = (encSk S[i]).set 1 (.int c) := getD_set_eq hil
 rw [e, e2, List.set_set, hc, hm]
 refine List.ext_getElem (by simp) fun j h1 h2 => ?_
 have hj : j < S.length := by simpa using h1
 rw [List.getElem_set, List.getElem_map, List.getElem_map, mod_get hj]
 by_cases eij : i = j
 · subst eij
   rw [if_pos rfl, if_pos rfl]
   rfl
 · rw [if_neg eij, if_neg eij]
theorem row_at {S : List Sk} {i : Nat} (hi : i < S.length) (c : Int) : ((S.map encSk).set i (((S.map encSk).getD i []).set 1 (.int c)))[i]? = some [.int S[i].round, .int c, .int S[i].size] := by
 have hil : i < (S.map encSk).length := by simpa using hi
 rw [List.getElem?_set_self hil, getD_at hil, List.getElem_map]
 rfl
theorem row_easy {D : List Nd} {i : Nat} (hi : i < D.length) : (D.map encNd).set i (((D.map encNd).getD i []).set 2 (.int 0)) = (D.modify i easN).map encNd := by
 have hil : i < (D.map encNd).length := by simpa using hi
 have e : (D.map encNd).getD i [] = encNd D[i] := by rw [getD_at hil, List.getElem_map]
 rw [e]
 refine List.ext_getElem (by simp) fun j h1 h2 => ?_
 have hj : j < D.length := by simpa using h1
 rw [List.getElem_set, List.getElem_map, List.getElem_map, mod_get hj]
 by_cases eij : i = j
 · subst eij
   rw [if_pos rfl, if_pos rfl]
   rfl
 · rw [if_neg eij, if_neg eij]
theorem tmodN (p q : Nat) : Int.tmod (p : Int) (q : Int) = ((p % q : Nat) : Int) := by
 rw [Int.tmod_eq_emod_of_nonneg (Int.natCast_nonneg p)]
 exact (Int.natCast_emod p q).symm
attribute [local irreducible] PSub Wp PSpec Le Need Both
attribute [local irreducible] lgR hallO chkE
theorem more_law (S : List Sk) (D : List Nd) (a b f : Nat) (z : Int) (h : Reach S D) (ha : a < 256) (hb' : b < 256) (hf' : f < 256) (hz : -9223372036854775808 ≤ z ∧ z ≤ 9223372036854775807) :
   PSpec Tryd.prog 9 [encSks S, encNds D, .val (.int .u8 a), .val (.int .u8 b), .val (.int .u8 f), .int z] (.bool true) := by
 obtain ⟨hS, hD, hn, h48⟩ := h
 have lS : (S.map encSk).length = S.length := List.length_map ..
 have lD : (D.map encNd).length = D.length := List.length_map ..
 have qf := few_in_spec S D hS hD hn
 by_cases hf : fewIn S D
 case neg =>
   rw [decide_eq_false hf] at qf
   refine PSpec.of_vc (fun Γ => more8 false Γ.P Γ.fx) (fun Γ => more8_ok) Tryd.func9 rfl Tryd.call9 (by simp) ?_
   rintro ⟨P, N, w0, X, β0, fx, y, hy, pk, df⟩ rfl rfl rfl hoff rfl; change y.on = false at hoff
   skip
   refine .inl ⟨_, sane_spec, ?_⟩
   skip
   refine .inl ⟨_, qf, ?_⟩
   skip
   exact PSub.refl _
 rw [decide_eq_true hf] at qf
 have hsm := fewIn_small hf
 have q1 := Longest_spec S D hsm
 by_cases hk : chkP S D
 case neg =>
   rw [show lgE S D = .tup [encIs [], .int 320] from if_neg hk] at q1
   refine PSpec.of_vc (fun Γ => more8 false Γ.P Γ.fx) (fun Γ => more8_ok) Tryd.func9 rfl Tryd.call9 (by simp) ?_
   rintro ⟨P, N, w0, X, β0, fx, y, hy, pk, df⟩ rfl rfl rfl hoff rfl; change y.on = false at hoff
   skip
   refine .inl ⟨_, sane_spec, ?_⟩
   skip
   refine .inl ⟨_, qf, ?_⟩
   skip
   refine .inl ⟨_, q1, ?_⟩
   repeat' ((try conv => whnf); first|refine aq rfl ?_|fail)
   exact PSub.refl _
 rw [show lgE S D = .tup [encIs (lgR D S), .int 0] from if_pos hk] at q1
 by_cases hS0 : S.length = 0
 · refine PSpec.of_vc (fun Γ => more8 false Γ.P Γ.fx) (fun Γ => more8_ok) Tryd.func9 rfl Tryd.call9 (by simp) ?_
   rintro ⟨P, N, w0, X, β0, fx, y, hy, pk, df⟩ rfl rfl rfl hoff rfl; change y.on = false at hoff
   skip
   refine .inl ⟨_, sane_spec, ?_⟩
   skip
   refine .inl ⟨_, qf, ?_⟩
   skip
   refine .inl ⟨_, q1, ?_⟩
   repeat' ((try conv => whnf); first|(first|refine k3 ?_ ?_|refine k4 ?_ ?_) <;> intro hb <;> (try rw [lM] at hb) <;> try (exfalso; omega)|refine aq rfl ?_|fail)
   exact PSub.refl _
 by_cases hD0 : D.length = 0
 · refine PSpec.of_vc (fun Γ => more8 false Γ.P Γ.fx) (fun Γ => more8_ok) Tryd.func9 rfl Tryd.call9 (by simp) ?_
   rintro ⟨P, N, w0, X, β0, fx, y, hy, pk, df⟩ rfl rfl rfl hoff rfl; change y.on = false at hoff
   skip
   refine .inl ⟨_, sane_spec, ?_⟩
   skip
   refine .inl ⟨_, qf, ?_⟩
   skip
   refine .inl ⟨_, q1, ?_⟩
   repeat' ((try conv => whnf); first|(first|refine k3 ?_ ?_|refine k4 ?_ ?_) <;> intro hb <;> (try rw [lM] at hb) <;> try (exfalso; omega)|refine aq rfl ?_|fail)
   exact PSub.refl _
 have hS4 := hf.2.1
 have hD6 := hf.2.2
 refine PSpec.of_vc (fun Γ => more8 false Γ.P Γ.fx) (fun Γ => more8_ok) Tryd.func9 rfl Tryd.call9 (by simp) ?_
 rintro ⟨P, N, w0, X, β0, fx, y, hy, pk, df⟩ rfl rfl rfl hoff rfl; change y.on = false at hoff
 skip
 refine .inl ⟨_, sane_spec, ?_⟩
 skip
 refine .inl ⟨_, qf, ?_⟩
 skip
 refine .inl ⟨_, q1, ?_⟩
 repeat' ((try conv => whnf); first|(first|refine k3 ?_ ?_|refine k4 ?_ ?_) <;> intro hb <;> (try rw [lM] at hb) <;> try (exfalso; omega)|refine aq rfl ?_|refine s4 nm ?_|refine aq bd ?_|fail)
 obtain ⟨i, hi⟩ : ∃ i, i = a % (S.map encSk).length := ⟨_, rfl⟩
 have hiS : i < S.length := by rw [hi, lS]; exact Nat.mod_lt _ (by omega)
 have e1 : Int.tmod (a : Int) ((S.map encSk).length : Nat) = (i : Int) := by rw [tmodN, hi]
 have hpt : 0 + ((i : Nat) : Int).toNat < S.length := by omega
 have hE : S[0 + ((i : Nat) : Int).toNat] = S[i] := by simp only [Nat.zero_add, Int.toNat_natCast]
 obtain ⟨g1, g2, g3⟩ := hk.2.2.1 _ (List.getElem_mem hiS)
 have hcb : 0 ≤ (S[0 + ((i : Nat) : Int).toNat]).copies ∧ (S[0 + ((i : Nat) : Int).toNat]).copies ≤ 16 := by
   rw [hE]
   omega
 have hat : ((([] : List (List PV)) ++ S.map encSk).set (0 + ((i : Nat) : Int).toNat) (((([] : List (List PV)) ++ S.map encSk).getD (0 + ((i : Nat) : Int).toNat) []).set 1 (.int (min ((S[0 + ((i : Nat) : Int).toNat]).copies + 1) 16))))[0 + ((i : Nat) : Int).toNat]? = some [.int S[i].round, .int (min ((S[0 + ((i : Nat) : Int).toNat]).copies + 1) 16), .int S[i].size] := by
   have := row_at hiS (min ((S[0 + ((i : Nat) : Int).toNat]).copies + 1) 16)
   simp only [Nat.zero_add, Int.toNat_natCast, List.nil_append] at this ⊢
   exact this
 obtain ⟨j, hj⟩ : ∃ j, j = b % (D.map encNd).length := ⟨_, rfl⟩
 have hjD : j < D.length := by rw [hj, lD]; exact Nat.mod_lt _ (by omega)
 have e2 : Int.tmod (b : Int) ((D.map encNd).length : Nat) = (j : Int) := by rw [tmodN, hj]
 have hpt2 : 0 + ((j : Nat) : Int).toNat < D.length := by omega
 obtain ⟨n, hnd⟩ : ∃ n, n = f % ((D.map encNd).length + 1) := ⟨_, rfl⟩
 have hnD : n ≤ D.length := by
   have : n < (D.map encNd).length + 1 := by rw [hnd]; exact Nat.mod_lt _ (by omega)
   omega
 have e3 : Int.tmod (f : Int) (((D.map encNd).length : Nat) + 1 : Int) = (n : Int) := by
   rw [show (((D.map encNd).length : Nat) : Int) + 1 = (((D.map encNd).length + 1 : Nat) : Int) by omega, tmodN, hnd]
 have hk1 := chk_more hk i z
 have hk2 := chk_easy hk j
 have hk3 := chk_take hk n
 have qa : PSpec Tryd.prog 12 [.sl 3 (List.take (([] : List (List PV)).length + (S.map encSk).length) (List.drop 0 (((([] : List (List PV)) ++ S.map encSk).set (0 + ((i : Nat) : Int).toNat) (((([] : List (List PV)) ++ S.map encSk).getD (0 + ((i : Nat) : Int).toNat) []).set 1 (.int (min ((S[0 + ((i : Nat) : Int).toNat]).copies + 1) 16)))).set (0 + ((i : Nat) : Int).toNat) (((((([] : List (List PV)) ++ S.map encSk).set (0 + ((i : Nat) : Int).toNat) (((([] : List (List PV)) ++ S.map encSk).getD (0 + ((i : Nat) : Int).toNat) []).set 1 (.int (min ((S[0 + ((i : Nat) : Int).toNat]).copies + 1) 16))))).getD (0 + ((i : Nat) : Int).toNat) []).set 2 (.int (max S[i].size z)))))), encNds D] (.tup [encIs (lgR D (S.modify i (morS z))), .int 0]) := by
   have hrow := row_more hiS z (min ((S[0 + ((i : Nat) : Int).toNat]).copies + 1) 16) (max S[i].size z) (by rw [hE]) rfl
   have q := Longest_spec (S.modify i (morS z)) D ⟨by rw [List.length_modify]; exact hsm.hS, hsm.hD, hsm.hn⟩
   rw [show lgE (S.modify i (morS z)) D = .tup [encIs (lgR D (S.modify i (morS z))), .int 0] from if_pos hk1] at q
   simp only [Nat.zero_add, Int.toNat_natCast, List.nil_append, List.length_nil, List.drop_zero] at hrow ⊢
   rw [hrow, List.take_of_length_le (by simp)]
   exact q
 have qb : PSpec Tryd.prog 12 [encSks S, .sl 4 (List.take (([] : List (List PV)).length + (D.map encNd).length) (List.drop 0 ((([] : List (List PV)) ++ D.map encNd).set (0 + ((j : Nat) : Int).toNat) (((([] : List (List PV)) ++ D.map encNd).getD (0 + ((j : Nat) : Int).toNat) []).set 2 (.int 0)))))] (.tup [encIs (lgR (D.modify j easN) S), .int 0]) := by
   have hrow := row_easy hjD
   have q := Longest_spec S (D.modify j easN) ⟨hsm.hS, by rw [List.length_modify]; exact hsm.hD, mod_all hsm.hn fun x hx => hsm.hn x hx⟩
   rw [show lgE S (D.modify j easN) = .tup [encIs (lgR (D.modify j easN) S), .int 0] from if_pos hk2] at q
   simp only [Nat.zero_add, Int.toNat_natCast, List.nil_append, List.length_nil, List.drop_zero] at hrow ⊢
   rw [hrow, List.take_of_length_le (by simp)]
   exact q
 have qc : PSpec Tryd.prog 12 [encSks S, .sl 4 (cut (D.map encNd) 0 ((n : Nat) : Int).toNat)] (.tup [encIs (lgR (D.take n) S), .int 0]) := by
   have q := Longest_spec S (D.take n) ⟨hsm.hS, by rw [List.length_take]; have := hsm.hD; omega, fun x hx => hsm.hn x (List.mem_of_mem_take hx)⟩
   rw [show lgE S (D.take n) = .tup [encIs (lgR (D.take n) S), .int 0] from if_pos hk3] at q
   have hcut : cut (D.map encNd) 0 ((n : Nat) : Int).toNat = (D.take n).map encNd := by
     unfold cut
     rw [List.drop_zero, Nat.sub_zero, Int.toNat_natCast, ← List.map_take]
   rw [hcut]
   exact q
 have w1 := more_ge hk i z
 have w2 := easy_ge hk j
 have w3 := take_eq hk n hnD
 have lb := lgR_bd hk
 have lb1 := lgR_bd hk1
 have lb2 := lgR_bd hk2
 rw [List.length_modify] at lb2
 obtain ⟨L, hL⟩ : ∃ L, L = lgR D S := ⟨_, rfl⟩
 obtain ⟨LA, hLA⟩ : ∃ LA, LA = lgR D (S.modify i (morS z)) := ⟨_, rfl⟩
 obtain ⟨LB, hLB⟩ : ∃ LB, LB = lgR (D.modify j easN) S := ⟨_, rfl⟩
 obtain ⟨LC, hLC⟩ : ∃ LC, LC = lgR (D.take n) S := ⟨_, rfl⟩
 rw [← hLA] at qa w1 lb1
 rw [← hLB] at qb w2 lb2
 rw [← hLC] at qc w3
 rw [← hL] at w1 w2 w3 lb ⊢
 have lL : (L.map fun x => [PV.int x]).length = L.length := List.length_map ..
 have lLA : (LA.map fun x => [PV.int x]).length = LA.length := List.length_map ..
 have lLB : (LB.map fun x => [PV.int x]).length = LB.length := List.length_map ..
 have lLC : (LC.map fun x => [PV.int x]).length = LC.length := List.length_map ..
 refine ⟨_, e1, ?_⟩
 repeat' ((try conv => whnf); first|refine aq rfl ?_|refine s4 nm ?_|refine aq bd ?_|refine ⟨_, _, getMapN nm, rfl, ?_⟩|refine ⟨_, set_rfl _ _ _, ?_⟩|fail)
 refine ⟨_, _, hat, rfl, ?_⟩
 repeat' ((try conv => whnf); first|refine aq rfl ?_|refine s4 nm ?_|refine aq bd ?_|refine ⟨_, set_rfl _ _ _, ?_⟩|fail)
 refine ⟨_, e2, ?_⟩
 repeat' ((try conv => whnf); first|refine aq rfl ?_|refine s4 nm ?_|refine aq bd ?_|refine ⟨_, set_rfl _ _ _, ?_⟩|fail)
 refine ⟨_, e3, ?_⟩
 skip
 refine .inl ⟨_, qa, ?_⟩
 repeat' ((try conv => whnf); first|refine aq rfl ?_|fail)
 refine .inl ⟨_, qb, ?_⟩
 repeat' ((try conv => whnf); first|refine aq rfl ?_|refine aq bd ?_|fail)
 refine .inl ⟨_, qc, ?_⟩
 repeat' ((try conv => whnf); first|(first|refine k3 ?_ ?_|refine k4 ?_ ?_) <;> intro hb <;> (try rw [lM] at hb) <;> try (exfalso; omega)|refine aq rfl ?_|fail)
 exact PSub.val_bool (by simp only [lL, lLC]; exact decide_eq_true (by omega))
end Go.Proofs.YthldjgjpokjliaaDoor
