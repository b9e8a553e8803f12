/- Schedules: the best round, as the law sees it; plain. Conditions: none. -/
import Derived.Test.YthldjgjpokjliaaDoorWt
import Derived.Test.YthldjgjpokjliaaDoorWf
import Derived.Test.YthldjgjpokjliaaDoorWd
set_option linter.unusedSimpArgs false
set_option linter.unusedVariables false
set_option maxRecDepth 20000
set_option maxHeartbeats 4000000
namespace Go.Proofs.YthldjgjpokjliaaDoor
open Go.Avc
def sk0 : Sk := ⟨0, 0, 0⟩
def canB (S : List Sk) (x : Nd) (i : Nat) : Bool := match S[i]? with
 | some s => decide (canS x s)
 | none => false
theorem canB_at {S : List Sk} {x : Nd} {i : Nat} (h : i < S.length) : canB S x i = decide (canS x S[i]) := by
 unfold canB
 rw [List.getElem?_eq_getElem h]
def svI (S : List Sk) (x : Nd) (k : Nat) : List Nat := (List.range k).filter fun i => canB S x i
def svK (S : List Sk) (i : Nat) : Int := (S.getD i sk0).round
def svM (S : List Sk) (D : List Nd) (x : Nd) (k : Nat) : List (Int × PV) := (svI S x k).map fun i => (svK S i, PV.int (dcS S D i))
theorem svI_next (S : List Sk) (x : Nd) (k : Nat) : svI S x (k + 1) = if canB S x k then svI S x k ++ [k] else svI S x k := by
 unfold svI
 rw [List.range_succ, List.filter_append, List.filter_cons, List.filter_nil]
 split <;> simp
theorem svI_mem {S : List Sk} {x : Nd} {k i : Nat} : i ∈ svI S x k ↔ i < k ∧ canB S x i = true := by
 unfold svI
 rw [List.mem_filter, List.mem_range]
theorem canB_lt {S : List Sk} {x : Nd} {i : Nat} (h : canB S x i = true) : ∃ hi : i < S.length, canS x S[i] := by
 by_cases hi : i < S.length
 · rw [canB_at hi] at h
   exact ⟨hi, of_decide_eq_true h⟩
 · unfold canB at h
   rw [List.getElem?_eq_none (by omega)] at h
   cases h
theorem svK_at {S : List Sk} {i : Nat} (h : i < S.length) : svK S i = S[i].round := by unfold svK; rw [getD_at h]
theorem svM_keys (S : List Sk) (D : List Nd) (x : Nd) (k : Nat) : (svM S D x k).map (·.1) = (svI S x k).map (svK S) := by
 unfold svM
 rw [List.map_map]
 rfl
theorem svM_put {S : List Sk} {D : List Nd} {x : Nd} {k : Nat} (h : rok S) (hk : k < S.length) (hc : canS x S[k]) : mput (svM S D x k) S[k].round (.int (dcS S D k)) = svM S D x (k + 1) := by
 have hno : S[k].round ∉ (svM S D x k).map (·.1) := by
   rw [svM_keys]
   intro hm
   obtain ⟨i, hi, e⟩ := List.mem_map.1 hm
   obtain ⟨h1, h2⟩ := svI_mem.1 hi
   obtain ⟨hil, _⟩ := canB_lt h2
   rw [svK_at hil] at e
   have := rdist_lt h.1 hil hk h1
   omega
 rw [(mget_none hno _).2]
 unfold svM
 rw [svI_next, if_pos (by rw [canB_at hk]; exact decide_eq_true hc), List.map_append, List.map_singleton, svK_at hk]
theorem svM_skip {S : List Sk} {D : List Nd} {x : Nd} {k : Nat} (hk : k < S.length) (hc : ¬ canS x S[k]) : svM S D x (k + 1) = svM S D x k := by
 unfold svM
 rw [svI_next, if_neg (by rw [canB_at hk]; simpa using hc)]
theorem svM_get {S : List Sk} {D : List Nd} {x : Nd} {k j : Nat} (h : rok S) (hj : j ∈ svI S x k) : mget (svM S D x k) (svK S j) = some (.int (dcS S D j)) := by
 obtain ⟨h1, h2⟩ := svI_mem.1 hj
 obtain ⟨hjl, _⟩ := canB_lt h2
 have hf : (svM S D x k).find? (fun q => decide (q.1 = svK S j)) = some (svK S j, PV.int (dcS S D j)) := by
   unfold svM
   rw [List.find?_map]
   have : (svI S x k).find? ((fun q : Int × PV => decide (q.1 = svK S j)) ∘ fun i => (svK S i, PV.int (dcS S D i))) = some j := by
     obtain ⟨n, hn, e⟩ := List.getElem_of_mem hj
     refine List.find?_eq_some_iff_getElem.2 ⟨by simp, n, hn, e, fun m hm => ?_⟩
     have hmI : (svI S x k)[m] ∈ svI S x k := List.getElem_mem (by omega)
     have hlt : (svI S x k)[m] < (svI S x k)[n] := List.pairwise_iff_getElem.1 (show (svI S x k).Pairwise (· < ·) from List.pairwise_lt_range.filter _) m n (Nat.lt_trans hm hn) hn hm
     obtain ⟨g1, g2⟩ := svI_mem.1 hmI
     obtain ⟨gl, _⟩ := canB_lt g2
     rw [e] at hlt
     have := rdist_lt h.1 gl hjl hlt
     simp only [Function.comp_apply, svK_at gl, svK_at hjl]
     simp
     omega
   rw [this]
   rfl
 unfold mget
 rw [hf]
 rfl
theorem dcT_best {S : List Sk} {D : List Nd} {x : Nd} (h : rok S) : ∀ k, k ≤ S.length → (dcT S D x k = (-1, -1) ∧ svI S x k = []) ∨
   ∃ j, j ∈ svI S x k ∧ dcT S D x k = (svK S j, (dcS S D j : Int)) ∧ ∀ i ∈ svI S x k, dcS S D i < dcS S D j ∨ dcS S D i = dcS S D j ∧ svK S j ≤ svK S i
 | 0, _ => .inl ⟨rfl, rfl⟩
 | k + 1, hk => by
   have ih := dcT_best (D := D) (x := x) h k (by omega)
   have hkl : k < S.length := by omega
   rw [dcT_next, dcF_at hkl, svI_next, canB_at hkl]
   by_cases hc : canS x S[k]
   · rw [if_pos (decide_eq_true hc)]
     rcases ih with ⟨h1, h2⟩ | ⟨j, h1, h2, h3⟩
     · rw [h1, if_pos ⟨hc, by show (-1 : Int) < _; omega⟩, h2]
       right
       refine ⟨k, by simp, by rw [svK_at hkl], fun i hi => ?_⟩
       simp only [List.nil_append, List.mem_singleton] at hi
       subst hi
       exact .inr ⟨rfl, Int.le_refl _⟩
     · obtain ⟨j1, j2⟩ := svI_mem.1 h1
       obtain ⟨jl, _⟩ := canB_lt j2
       have hlt := rdist_lt h.1 jl hkl j1
       rw [h2]
       by_cases hb : (dcS S D j : Int) < (dcS S D k : Int)
       · rw [if_pos ⟨hc, hb⟩]
         right
         refine ⟨k, by simp, by rw [svK_at hkl], fun i hi => ?_⟩
         rcases List.mem_append.1 hi with hi | hi
         · rcases h3 i hi with h4 | h4
           · left; omega
           · left; omega
         · rw [List.mem_singleton.1 hi]; exact .inr ⟨rfl, Int.le_refl _⟩
       · rw [if_neg fun h => hb h.2]
         right
         refine ⟨j, List.mem_append_left _ h1, rfl, fun i hi => ?_⟩
         rcases List.mem_append.1 hi with hi | hi
         · exact h3 i hi
         · rw [List.mem_singleton.1 hi, svK_at jl, svK_at hkl]
           rcases Nat.lt_or_ge (dcS S D k) (dcS S D j) with h4 | h4
           · exact .inl h4
           · exact .inr ⟨by omega, by omega⟩
   · rw [if_neg fun h => hc h.1, if_neg (by simpa using hc)]
     exact ih
theorem chk_dec {S : List Sk} {D : List Nd} {x : Nd} (h : chkP S D) {i : Nat} (hi : i < S.length) (hc : canS x S[i]) : chkP (decAt S i) D := by
 obtain ⟨h1, h2, h3, h4, h5⟩ := h
 refine ⟨by rw [decAt_len]; exact h1, h2, fun s hs => ?_, by rw [decAt_map (fun _ => rfl)]; exact h4, h5⟩
 obtain ⟨j, hj, rfl⟩ := List.getElem_of_mem hs
 have hj' : j < S.length := by rwa [decAt_len] at hj
 obtain ⟨g1, g2, g3⟩ := h3 _ (List.getElem_mem hj')
 rw [decAt_get hj']
 split
 · rename_i e
   subst e
   have := hc.1
   exact ⟨by show 0 ≤ S[i].copies - 1; omega, by show S[i].copies - 1 ≤ 16; omega, g3⟩
 · exact ⟨g1, g2, g3⟩
end Go.Proofs.YthldjgjpokjliaaDoor
/- Schedules: the law Best. Conditions: none. -/
namespace Go.Proofs.YthldjgjpokjliaaDoor
open Go.Avc
def svKs (S : List Sk) (D : List Nd) (x : Nd) : List Value := (svM S D x S.length).map fun q => intK.val q.1
def svVs (S : List Sk) (D : List Nd) (x : Nd) : List PV := (svM S D x S.length).map (·.2)
def svKp (S : List Sk) (x : Nd) (j : Nat) : PV := .int (svK S ((svI S x S.length).getD j 0))
theorem svKp_ok (S : List Sk) (D : List Nd) (x : Nd) : ∀ (j : Nat) (k : Value), (svKs S D x)[j]? = some k → ∀ (w : World) (A : Nat → Prop), PR w A (svKp S x j) k := fun j k h w A => by
 unfold svKs svM at h
 rw [List.map_map, List.getElem?_map, Option.map_eq_some_iff] at h
 obtain ⟨i, hi, rfl⟩ := h
 have hj : j < (svI S x S.length).length := (List.getElem?_eq_some_iff.1 hi).1
 have e : (svI S x S.length)[j] = i := (List.getElem?_eq_some_iff.1 hi).2
 unfold svKp
 rw [getD_at hj, e]
 exact .val _
theorem frz_ks (S : List Sk) (D : List Nd) (x : Nd) : (intK.enc (svM S D x S.length)).map (·.1) = svKs S D x := by
 unfold svKs MKey.enc
 rw [List.map_map]
 rfl
theorem frz_vs (S : List Sk) (D : List Nd) (x : Nd) : (intK.enc (svM S D x S.length)).map (·.2) = svVs S D x := by
 unfold svVs MKey.enc
 rw [List.map_map]
 rfl
theorem svKs_len (S : List Sk) (D : List Nd) (x : Nd) : (svKs S D x).length = (svI S x S.length).length := by simp [svKs, svM]
theorem nodup_le {js : List Nat} {n : Nat} (h : js.Nodup) (hb : ∀ j ∈ js, j < n) : js.length ≤ n := by
 have := nodup_sub (M := List.range n) h fun j hj => List.mem_range.2 (hb j hj)
 simpa using this
attribute [local irreducible] PSub Wp PSpec Le Need Both
attribute [local irreducible] lgR hallO chkE StepOK ICtx svKs svVs svKp dcS
theorem best_law (S : List Sk) (D : List Nd) (x : Nd) (day : Int) (h : Reach S D) (hx : x.rounds.length ≤ 140737488355328) : PSpec Tryd.prog 8 [encSks S, encNds D, .agg (encNd x), .int day] (.bool true) := by
 have qf := few_app_spec S D x h hx
 obtain ⟨hS, hD, hn, h48⟩ := h
 have lS : (S.map encSk).length = S.length := List.length_map ..
 have lD : (D.map encNd).length = D.length := List.length_map ..
 by_cases hf : fewIn S (D ++ [x])
 case neg =>
   rw [decide_eq_false hf] at qf
   refine PSpec.of_vc (fun Γ => more8 false Γ.P Γ.fx) (fun Γ => more8_ok) Tryd.func8 rfl Tryd.call8 (by simp) ?_
   rintro ⟨P, N, w0, X, β0, fx, y, hy, pk, df⟩ rfl rfl rfl hoff rfl; change y.on = false at hoff
   skip
   refine .inl ⟨_, sane_spec, ?_⟩
   skip
   refine Wp.draw (more := more8 true _ _) more8_det more8_ok FOK.wide rfl (by decide +kernel) (by conv => lhs; reduce) ?_
   repeat' ((try conv => whnf); first|refine aq rfl ?_|refine aq bd ?_|fail)
   refine ⟨_, qf, ?_⟩
   skip
   exact PSub.refl _
 rw [decide_eq_true hf] at qf
 obtain ⟨hf1, hf2, hf3⟩ := few_app hf
 have hsm := fewIn_small hf1
 have hS4 := hf1.2.1
 have q1 := Decide_spec S D x day hsm (by omega)
 by_cases hv : chkP S D ∧ ndP x ∧ 0 ≤ day ∧ day < x.to
 case neg =>
   rw [show decE S D x day = .tup [.int 0, .int 0, .int 320] from if_neg hv] at q1
   refine PSpec.of_vc (fun Γ => more8 false Γ.P Γ.fx) (fun Γ => more8_ok) Tryd.func8 rfl Tryd.call8 (by simp) ?_
   rintro ⟨P, N, w0, X, β0, fx, y, hy, pk, df⟩ rfl rfl rfl hoff rfl; change y.on = false at hoff
   skip
   refine .inl ⟨_, sane_spec, ?_⟩
   skip
   refine Wp.draw (more := more8 true _ _) more8_det more8_ok FOK.wide rfl (by decide +kernel) (by conv => lhs; reduce) ?_
   repeat' ((try conv => whnf); first|refine aq rfl ?_|refine aq bd ?_|fail)
   refine ⟨_, qf, ?_⟩
   skip
   refine .inl ⟨_, q1, ?_⟩
   skip
   exact PSub.refl _
 rw [show decE S D x day = _ from if_pos hv] at q1
 obtain ⟨hk, hnx, hd0, hd1⟩ := hv
 obtain ⟨n1, n2, n3, n4, _⟩ := hnx
 obtain ⟨hr, hc0⟩ := chk_rok hk
 have hc16 : ∀ s ∈ S, s.copies ≤ 16 := fun s hs => (hk.2.2.1 s hs).2.1
 have hbest := dcT_best (D := D) (x := x) hr S.length (Nat.le_refl _)
 obtain ⟨a, b, c, hq, hc3, hcase⟩ : ∃ a b c : Int, PSpec Tryd.prog 19 [encSks S, encNds D, .agg (encNd x), .int day] (.tup [.int a, .int b, .int c]) ∧ ¬ c = 320 ∧
     ((c = 321 ∧ svI S x S.length = []) ∨ (c = 0 ∧ b = max 0 (x.from_ - day) ∧ ∃ j, j ∈ svI S x S.length ∧ a = svK S j ∧ ∀ i ∈ svI S x S.length, dcS S D i < dcS S D j ∨ dcS S D i = dcS S D j ∧ svK S j ≤ svK S i)) := by
   rcases hbest with ⟨h1, h2⟩ | ⟨j, h1, h2, h3⟩
   · rw [h1, if_pos (by decide)] at q1
     exact ⟨0, 0, 321, q1, by decide, .inl ⟨rfl, h2⟩⟩
   · rw [h2, if_neg (by show ¬ (dcS S D j : Int) < 0; omega)] at q1
     exact ⟨_, _, 0, q1, by decide, .inr ⟨rfl, rfl, j, h1, rfl, h3⟩⟩
 refine PSpec.of_wpI (svKs S D x) (svVs S D x) Tryd.func8 rfl Tryd.call8 (by simp) ?_
 rintro ⟨P, N, w0, X, β0, fx, y, hy, pk, df⟩ rfl rfl rfl rfl hG
 refine code_soundR (fun id => Nat.beq id 20 || Nat.beq id 23 || Nat.beq id 24 || Nat.beq id 25) (more := more8 false _ _) more8_ok FOK.wide _ ?_
 skip
 refine .inl ⟨_, sane_spec, ?_⟩
 skip
 refine Wp.draw (more := more8 true _ _) more8_det more8_ok FOK.wide rfl (by decide +kernel) (by conv => lhs; reduce) ?_
 repeat' ((try conv => whnf); first|refine aq rfl ?_|refine aq bd ?_|fail)
 refine ⟨_, qf, ?_⟩
 skip
 refine .inl ⟨_, hq, ?_⟩
 repeat' ((try conv => whnf); first|(first|refine k3 ?_ ?_|refine k4 ?_ ?_) <;> intro hb <;> (try rw [lM] at hb) <;> try (exfalso; omega)|fail)
 refine Wp.loop (fun k : Nat => ⟨[(0, .pure (encSks S)), (1, .pure (encNds D)), (3, .int day), (6, .loc 6 0 0), (9, .int a), (10, .int b), (11, .int c), (12, .mp 50), (51, .pure (encSks S)), (52, .int S.length), (53, .int k), (148, .gh 0 false)], [(50, some (.mp (intK.enc (svM S D x k)))), (6, some (.box (pures (encNd x))))], [50, 6]⟩) (fun k => k ≤ S.length) (fun k => S.length - k) 0
   (Le.of ?_ ?_ rfl rfl rfl) (Nat.zero_le _) ?_
 · (repeat' (first|exact trivial|refine aq ?_ ?_|exact oq|exact l1 bd|fail))
 · (repeat' (first|exact trivial|exact rfl|refine aq ?_ ?_|refine Exists.intro _ (aq rfl ?_)|exact oq|fail))
 rintro k hkl
 by_cases hk2 : k < S.length
 · have qu := uses_spec x S[k] (by omega)
   have hck := hc0 _ (List.getElem_mem hk2)
   have hck2 := hc16 _ (List.getElem_mem hk2)
   by_cases h0 : S[k].copies = 0
   · have hsk := svM_skip (D := D) hk2 (x := x) (fun h => h.1 h0)
     refine code_soundR (fun id => Nat.beq id 20 || Nat.beq id 23 || Nat.beq id 24 || Nat.beq id 25) (more := more8 false _ _) more8_ok FOK.wide _ ?_
     repeat' ((try conv => whnf); first|(first|refine k3 ?_ ?_|refine k4 ?_ ?_) <;> intro hb <;> (try rw [lM] at hb) <;> try (exfalso; omega)|refine aq rfl ?_|refine s4 nm ?_|refine s5 nm nm ?_|fail)
     refine ⟨k + 1, Le.of (by (repeat' (first|exact trivial|refine aq ?_ ?_|exact oq|fail))) ?_ rfl rfl rfl, by omega, by omega⟩
     rw [hsk]
     (repeat' (first|exact trivial|exact rfl|refine aq ?_ ?_|refine Exists.intro _ (aq rfl ?_)|exact oq|fail))
   by_cases hu : usesB x S[k] = true
   case neg =>
     have hsk := svM_skip (D := D) hk2 (x := x) (fun h => hu h.2)
     rw [Bool.not_eq_true] at hu
     rw [hu] at qu
     refine code_soundR (fun id => Nat.beq id 20 || Nat.beq id 23 || Nat.beq id 24 || Nat.beq id 25) (more := more8 false _ _) more8_ok FOK.wide _ ?_
     repeat' ((try conv => whnf); first|(first|refine k3 ?_ ?_|refine k4 ?_ ?_) <;> intro hb <;> (try rw [lM] at hb) <;> try (exfalso; omega)|refine aq rfl ?_|refine s5 nm nm ?_|fail)
     refine .inl ⟨_, qu, ?_⟩
     repeat' ((try conv => whnf); first|refine s4 nm ?_|fail)
     refine ⟨k + 1, Le.of (by (repeat' (first|exact trivial|refine aq ?_ ?_|exact oq|fail))) ?_ rfl rfl rfl, by omega, by omega⟩
     rw [hsk]
     (repeat' (first|exact trivial|exact rfl|refine aq ?_ ?_|refine Exists.intro _ (aq rfl ?_)|exact oq|fail))
   rw [hu] at qu
   have hcs : canS x S[k] := ⟨h0, hu⟩
   have hpt : 0 + ((k : Nat) : Int).toNat < S.length := by omega
   have hE : S[0 + ((k : Nat) : Int).toNat] = S[k] := by simp only [Nat.zero_add, Int.toNat_natCast]
   have hcb : 1 ≤ (S[0 + ((k : Nat) : Int).toNat]).copies ∧ (S[0 + ((k : Nat) : Int).toNat]).copies ≤ 16 := by
     rw [hE]
     omega
   have hrow : (([] : List (List PV)) ++ S.map encSk).set (0 + ((k : Nat) : Int).toNat) (((([] : List (List PV)) ++ S.map encSk).getD (0 + ((k : Nat) : Int).toNat) []).set 1 (.int ((S[0 + ((k : Nat) : Int).toNat]).copies - 1))) = (decAt S k).map encSk := by
     have := row_dec hk2 (x := (S[0 + ((k : Nat) : Int).toNat]).copies - 1) (by rw [hE])
     simp only [Nat.zero_add, Int.toNat_natCast, List.nil_append] at this ⊢
     exact this
   have ql : PSpec Tryd.prog 12 [.sl 3 (List.take (([] : List (List PV)).length + (S.map encSk).length) (List.drop 0 ((([] : List (List PV)) ++ S.map encSk).set (0 + ((k : Nat) : Int).toNat) (((([] : List (List PV)) ++ S.map encSk).getD (0 + ((k : Nat) : Int).toNat) []).set 1 (.int ((S[0 + ((k : Nat) : Int).toNat]).copies - 1)))))), encNds D] (.tup [encIs (lgR D (decAt S k)), .int 0]) := by
     rw [hrow, List.drop_zero, List.take_of_length_le (by simp [decAt_len])]
     have q := Longest_spec (decAt S k) D ⟨by rw [decAt_len]; exact hsm.hS, hsm.hD, hsm.hn⟩
     rwa [show lgE (decAt S k) D = .tup [encIs (lgR D (decAt S k)), .int 0] from if_pos (chk_dec hk hk2 hcs)] at q
   have hput := svM_put (D := D) hr hk2 hcs
   have hdc : dcS S D k = (lgR D (decAt S k)).length := by unfold dcS; rfl
   have hlb := lgR_bd (chk_dec (D := D) hk hk2 hcs)
   obtain ⟨L, hL⟩ : ∃ L, L = lgR D (decAt S k) := ⟨_, rfl⟩
   rw [← hL] at ql hdc hlb
   have lL : (L.map fun x => [PV.int x]).length = L.length := List.length_map ..
   rw [hdc, ← lL] at hput
   refine code_soundR (fun id => Nat.beq id 20 || Nat.beq id 23 || Nat.beq id 24 || Nat.beq id 25) (more := more8 false _ _) more8_ok FOK.wide _ ?_
   repeat' ((try conv => whnf); first|(first|refine k3 ?_ ?_|refine k4 ?_ ?_) <;> intro hb <;> (try rw [lM] at hb) <;> try (exfalso; omega)|refine aq rfl ?_|refine s5 nm nm ?_|fail)
   refine .inl ⟨_, qu, ?_⟩
   repeat' ((try conv => whnf); first|refine aq rfl ?_|refine s4 nm ?_|refine aq bd ?_|refine ⟨_, _, getMapN nm, rfl, ?_⟩|refine ⟨_, set_rfl _ _ _, ?_⟩|fail)
   refine .inl ⟨_, ql, ?_⟩
   repeat' ((try conv => whnf); first|refine aq rfl ?_|fail)
   refine ⟨Int, inferInstance, intK, S[k].round, svM S D x k, _, by kernel_rfl, rfl, rfl, hput, ?_⟩
   repeat' ((try conv => whnf); first|refine s4 nm ?_|fail)
   exact ⟨k + 1, Le.of (by (repeat' (first|exact trivial|refine aq ?_ ?_|exact oq|fail))) (by (repeat' (first|exact trivial|exact rfl|refine aq ?_ ?_|refine Exists.intro _ (aq rfl ?_)|exact oq|fail))) rfl rfl rfl, by omega, by omega⟩
 have e : k = S.length := by omega
 subst e
 refine code_soundR (fun id => Nat.beq id 20 || Nat.beq id 23 || Nat.beq id 24 || Nat.beq id 25) (more := more8 false _ _) more8_ok FOK.wide _ ?_
 repeat' ((try conv => whnf); first|(first|refine k3 ?_ ?_|refine k4 ?_ ?_) <;> intro hb <;> (try rw [lM] at hb) <;> try (exfalso; omega)|fail)
 refine Wp.le (Le.trans (Le.frzMp (t := 12) (k := 50) rfl rfl (Nat.le_of_ble_eq_true rfl) rfl) (Le.of (s' := ⟨[(3, .int day), (6, .loc 6 0 0), (9, .int a), (10, .int b), (11, .int c), (12, .pure (.mp (svKs S D x) (svVs S D x))), (148, .gh 0 false)], [(6, some (.box (pures (encNd x))))], [6]⟩) ?_ ?_ rfl rfl rfl)) ?_
 · rw [← frz_ks, ← frz_vs]
   (repeat' (first|exact trivial|refine aq ?_ ?_|exact oq|fail))
 · (repeat' (first|exact trivial|refine aq ?_ ?_|refine Exists.intro _ (aq rfl ?_)|exact oq|fail))
 rcases hcase with ⟨rfl, hnil⟩ | ⟨rfl, rfl, j, hj, rfl, hb⟩
 · have hlen : (svKs S D x).length = 0 := by rw [svKs_len, hnil]; rfl
   refine code_sound (more := more8 false _ _) more8_ok FOK.wide _ ?_
   skip
   refine And.intro ?_ ⟨_, _, rfl⟩
   skip
   exact PSub.val_bool (by rw [hlen]; rfl)
 · have hget := svM_get (D := D) hr hj
   have hks0 : svKs S D x = (svM S D x S.length).map fun q => intK.val q.1 := by unfold svKs; rfl
   have hvs0 : svVs S D x = (svM S D x S.length).map (·.2) := by unfold svVs; rfl
   have hkl := svKs_len S D x
   obtain ⟨m, hm⟩ : ∃ m, m = (svI S x S.length).length := ⟨_, rfl⟩
   rw [← hm] at hkl
   have hvat : ∀ (i : Nat) (p : PV), (svVs S D x)[i]? = some p → p = .int (dcS S D ((svI S x S.length).getD i 0)) ∧ i < m := fun i p hp => by
     rw [hvs0] at hp
     unfold svM at hp
     rw [List.map_map, List.getElem?_map, Option.map_eq_some_iff] at hp
     obtain ⟨q, hq, rfl⟩ := hp
     have h1 : i < (svI S x S.length).length := (List.getElem?_eq_some_iff.1 hq).1
     have h2 : (svI S x S.length)[i] = q := (List.getElem?_eq_some_iff.1 hq).2
     exact ⟨by rw [getD_at h1, h2]; rfl, by omega⟩
   have hkat : ∀ i, svKp S x i = .int (svK S ((svI S x S.length).getD i 0)) := fun i => by unfold svKp; rfl
   have hbi : ∀ i, i < m → dcS S D ((svI S x S.length).getD i 0) < dcS S D j ∨ dcS S D ((svI S x S.length).getD i 0) = dcS S D j ∧ svK S j ≤ svK S ((svI S x S.length).getD i 0) := fun i hi => hb _ (getD_mem (by omega))
   obtain ⟨n, hnd⟩ : ∃ n, n = dcS S D j := ⟨_, rfl⟩
   rw [← hnd] at hget hbi
   obtain ⟨r0, hr0⟩ : ∃ r0, r0 = svK S j := ⟨_, rfl⟩
   rw [← hr0] at hget hbi ⊢
   obtain ⟨wt, hwt⟩ : ∃ wt, wt = max 0 (x.from_ - day) := ⟨_, rfl⟩
   rw [← hwt]
   refine code_sound (more := more8 false _ _) more8_ok FOK.wide _ ?_
   skip
   refine ⟨Int, inferInstance, intK, r0, svM S D x S.length, by kernel_rfl, rfl, ⟨hks0, hvs0⟩, _, _, (congrArg (fun o => Option.getD o _) hget).trans rfl, (congrArg Option.isSome hget).trans rfl, ?_⟩
   skip
   refine Wp.at (more := more8 false _ _) (l1 := [_]) (l2 := []) more8_ok FOK.wide rfl rfl (fun c h => by cases h) ?_
   skip
   refine StepOK.range hG rfl rfl (Nat.le_of_ble_eq_true rfl) rfl rfl Tryd.underlying43 fun r => ?_
   skip
   refine Wp.loop (fun js : List Nat => ⟨[(3, .int day), (6, .loc 6 0 0), (9, .int r0), (10, .int wt), (18, .int n), (19, .bool true), (108, .pure (.val (.pointer (some ⟨r, 0, none⟩)))), (148, .gh (pkL (r :: js)) false)], [(6, some (.box (pures (encNd x))))], [6]⟩) (fun js => js.Nodup ∧ ∀ i ∈ js, i < m) (fun js => m - js.length) []
     (Le.of ?_ ?_ rfl rfl rfl) ⟨List.nodup_nil, by simp⟩ ?_
   · (repeat' (first|exact trivial|refine aq ?_ ?_|exact oq|fail))
   · (repeat' (first|exact trivial|refine aq ?_ ?_|refine Exists.intro _ (aq rfl ?_)|exact oq|fail))
   rintro js ⟨hjn, hjb⟩
   refine code_soundR (fun id => Nat.beq id 24 || Nat.beq id 25) (more := more8 false _ _) more8_ok FOK.wide _ ?_
   skip
   refine Wp.at (more := more8 false _ _) (l1 := []) (l2 := [_]) more8_ok FOK.wide rfl rfl (fun c h => by cases h) ?_
   skip
   refine StepOK.next hG (svKp S x) (svKp_ok S D x) rfl rfl (Nat.le_of_ble_eq_true rfl) rfl rfl (fun hall => ?_) (fun i p hi his hp => ?_)
   · repeat' ((try conv => whnf); first|(first|refine k3 ?_ ?_|refine k4 ?_ ?_) <;> intro hb <;> (try rw [lM] at hb) <;> try (exfalso; omega)|refine s4 nm ?_|fail)
     refine And.intro ?_ ⟨_, _, rfl⟩
     skip
     exact PSub.val_bool (by simp; omega)
   · obtain ⟨rfl, him⟩ := hvat i p hp
     have hbi2 := hbi i him
     have hki := hkat i
     obtain ⟨d, hdd⟩ : ∃ d, d = dcS S D ((svI S x S.length).getD i 0) := ⟨_, rfl⟩
     obtain ⟨rr, hrr⟩ : ∃ rr, rr = svK S ((svI S x S.length).getD i 0) := ⟨_, rfl⟩
     rw [← hdd] at hbi2 hp ⊢
     rw [← hrr] at hbi2 hki
     have hnew : (js ++ [i]).Nodup ∧ ∀ z ∈ js ++ [i], z < m := ⟨List.nodup_append.2 ⟨hjn, by simp, fun z hz y hy e => by rw [List.mem_singleton] at hy; subst hy; subst e; exact his hz⟩, fun z hz => by
       rcases List.mem_append.1 hz with hz | hz
       · exact hjb z hz
       · rw [List.mem_singleton] at hz; subst hz; exact him⟩
     have hle := nodup_le hnew.1 hnew.2
     rw [List.length_append, List.length_singleton] at hle
     have hmu : m - (js ++ [i]).length < m - js.length := by rw [List.length_append, List.length_singleton]; omega
     rw [hki]
     skip
     refine Wp.at (more := more8 false _ _) (l1 := []) (l2 := [_, _, _, _]) more8_ok FOK.wide rfl rfl (fun c h => by cases h) ?_
     skip
     refine StepOK.entry (j := i) (js := js) hG (svKp S x) (svKp_ok S D x) rfl rfl (Nat.le_of_ble_eq_true rfl) rfl rfl hp ?_
     rw [hki]
     repeat' ((try conv => whnf); first|(first|refine k3 ?_ ?_|refine k4 ?_ ?_) <;> intro hb <;> (try rw [lM] at hb) <;> try (exfalso; omega)|fail)
     all_goals exact ⟨js ++ [i], Le.of (by (repeat' (first|exact trivial|refine aq ?_ ?_|exact oq|fail))) (by (repeat' (first|exact trivial|refine aq ?_ ?_|refine Exists.intro _ (aq rfl ?_)|exact oq|fail))) rfl rfl rfl, hnew, hmu⟩
end Go.Proofs.YthldjgjpokjliaaDoor
