/- Schedules: which round to show; plain. Conditions: none. -/
import Derived.Test.YthldjgjpokjliaaDoorWn
import Derived.Test.YthldjgjpokjliaaDoorWd
set_option linter.unusedSimpArgs false
set_option linter.unusedVariables false
set_option maxRecDepth 20000
set_option maxHeartbeats 4000000
namespace Go.Proofs.YthldjgjpokjliaaDoor
open Go.Avc
def dcS (S : List Sk) (D : List Nd) (i : Nat) : Nat := (lgR D (decAt S i)).length
def dcF (S : List Sk) (D : List Nd) (x : Nd) (st : Int × Int) (i : Nat) : Int × Int := match S[i]? with
 | some s => if canS x s ∧ st.2 < (dcS S D i : Int) then (s.round, (dcS S D i : Int)) else st
 | none => st
def dcT (S : List Sk) (D : List Nd) (x : Nd) (k : Nat) : Int × Int := (List.range k).foldl (dcF S D x) (-1, -1)
theorem dcT_next (S : List Sk) (D : List Nd) (x : Nd) (k : Nat) : dcT S D x (k + 1) = dcF S D x (dcT S D x k) k := by
 unfold dcT
 rw [List.range_succ, List.foldl_append]
 rfl
theorem dcF_at {S : List Sk} {D : List Nd} {x : Nd} {st : Int × Int} {i : Nat} (h : i < S.length) : dcF S D x st i = if canS x S[i] ∧ st.2 < (dcS S D i : Int) then (S[i].round, (dcS S D i : Int)) else st := by
 unfold dcF
 rw [List.getElem?_eq_getElem h]
theorem dcT_skip {S : List Sk} {D : List Nd} {x : Nd} {k : Nat} : ∀ d, (∀ i (h : i < S.length), k ≤ i → i < k + d → ¬ canS x S[i]) → dcT S D x (k + d) = dcT S D x k
 | 0, _ => rfl
 | d + 1, h => by
   rw [show k + (d + 1) = k + d + 1 by omega, dcT_next, dcT_skip d fun i hi h1 h2 => h i hi h1 (by omega)]
   by_cases hl : k + d < S.length
   · rw [dcF_at hl, if_neg fun h2 => h (k + d) hl (by omega) (by omega) h2.1]
   · unfold dcF
     rw [List.getElem?_eq_none (by omega)]
theorem dcT_sign {S : List Sk} {D : List Nd} {x : Nd} (h : rok S) : ∀ k, (dcT S D x k = (-1, -1)) ∨ (0 ≤ (dcT S D x k).1 ∧ (dcT S D x k).1 < 64 ∧ 0 ≤ (dcT S D x k).2)
 | 0 => .inl rfl
 | k + 1 => by
   rw [dcT_next]
   by_cases hl : k < S.length
   · rw [dcF_at hl]
     split
     · right
       have := h.2 _ (List.getElem_mem hl)
       exact ⟨this.1, this.2, Int.natCast_nonneg _⟩
     · exact dcT_sign h k
   · unfold dcF
     rw [List.getElem?_eq_none (by omega)]
     exact dcT_sign h k
theorem dcT_le {S : List Sk} {D : List Nd} {x : Nd} (h : rok S) (hc : ∀ s ∈ S, 0 ≤ s.copies) : ∀ k, (dcT S D x k).2 ≤ D.length
 | 0 => by show (-1 : Int) ≤ _; omega
 | k + 1 => by
   rw [dcT_next]
   by_cases hl : k < S.length
   · rw [dcF_at hl]
     split
     · rename_i h1
       show (dcS S D k : Int) ≤ _
       unfold dcS
       rw [lgR_len (rok_dec h k) (copies_dec hc hl h1.1)]
       have := srvL_le (msS D (decAt S k)) (cpS (decAt S k))
       rw [msS_len] at this
       omega
     · exact dcT_le h hc k
   · unfold dcF
     rw [List.getElem?_eq_none (by omega)]
     exact dcT_le h hc k
def decE (S : List Sk) (D : List Nd) (x : Nd) (day : Int) : PV :=
 if chkP S D ∧ ndP x ∧ 0 ≤ day ∧ day < x.to then (if (dcT S D x S.length).2 < 0 then .tup [.int 0, .int 0, .int 321] else .tup [.int (dcT S D x S.length).1, .int (max 0 (x.from_ - day)), .int 0])
 else .tup [.int 0, .int 0, .int 320]
def lft (S : List Sk) (x : Nd) (k : Nat) : Nat := usM (S.drop k) x
theorem mem_drop {S : List Sk} {k : Nat} {s : Sk} : s ∈ S.drop k ↔ ∃ i, ∃ h : i < S.length, k ≤ i ∧ S[i] = s := by
 rw [List.mem_iff_getElem]
 constructor
 · rintro ⟨i, hi, rfl⟩
   have hi2 : k + i < S.length := by rw [List.length_drop] at hi; omega
   exact ⟨k + i, hi2, by omega, by rw [List.getElem_drop]⟩
 · rintro ⟨i, hi, h1, rfl⟩
   refine ⟨i - k, by rw [List.length_drop]; omega, ?_⟩
   rw [List.getElem_drop]
   congr 1
   omega
theorem lft_bit {S : List Sk} (h : rok S) (x : Nd) (k q : Nat) : (lft S x k).testBit q = true ↔ ∃ i, ∃ hi : i < S.length, k ≤ i ∧ S[i].round = (q : Int) ∧ usesB x S[i] = true := by
 unfold lft
 rw [usM_bit _ _ fun s hs => (h.2 s (List.mem_of_mem_drop hs)).1, List.any_eq_true]
 constructor
 · rintro ⟨s, hs, h1⟩
   obtain ⟨i, hi, h2, rfl⟩ := mem_drop.1 hs
   rw [Bool.and_eq_true] at h1
   exact ⟨i, hi, h2, of_decide_eq_true h1.1, h1.2⟩
 · rintro ⟨i, hi, h1, h2, h3⟩
   exact ⟨S[i], mem_drop.2 ⟨i, hi, h1, rfl⟩, by rw [Bool.and_eq_true]; exact ⟨decide_eq_true h2, h3⟩⟩
theorem lft_lt {S : List Sk} (h : rok S) (x : Nd) (k : Nat) : lft S x k < 18446744073709551616 := usM_lt _ fun s hs => h.2 s (List.mem_of_mem_drop hs)
theorem lft_next {S : List Sk} (h : rok S) {x : Nd} {k : Nat} (h0 : lft S x k ≠ 0) : ∃ j, ∃ hj : j < S.length, k ≤ j ∧ usesB x S[j] = true ∧ (∀ i (hi : i < S.length), k ≤ i → i < j → usesB x S[i] = false) ∧
   (Lib.ctz 64 (lft S x k) : Int) = S[j].round ∧ lft S x k &&& (lft S x k - 1) = lft S x (j + 1) := by
 obtain ⟨c1, c2, c3⟩ := ctz_bit h0 (lft_lt h x k)
 obtain ⟨i0, hi0, g1, g2, g3⟩ := (lft_bit h x k _).1 c2
 obtain ⟨j, ⟨hj, k1, k2⟩, hmin⟩ := least_nat (p := fun j => ∃ hj : j < S.length, k ≤ j ∧ usesB x S[j] = true) i0 ⟨hi0, g1, g3⟩
 have hno : ∀ i (hi : i < S.length), k ≤ i → i < j → usesB x S[i] = false := fun i hi h1 h2 => by
   cases hu : usesB x S[i] with
   | false => rfl
   | true => exact absurd ⟨hi, h1, hu⟩ (hmin i h2)
 have hctz : (Lib.ctz 64 (lft S x k) : Int) = S[j].round := by
   have hrj := h.2 _ (List.getElem_mem hj)
   have hbj : (lft S x k).testBit S[j].round.toNat = true := (lft_bit h x k _).2 ⟨j, hj, k1, by omega, k2⟩
   have hge : ¬ S[j].round.toNat < Lib.ctz 64 (lft S x k) := fun h5 => by rw [c3 _ h5] at hbj; cases hbj
   rcases Nat.lt_trichotomy i0 j with h5 | h5 | h5
   · have := hno i0 hi0 g1 h5; rw [g3] at this; cases this
   · subst h5; exact g2.symm
   · have := rdist_lt h.1 hj hi0 h5; omega
 refine ⟨j, hj, k1, k2, hno, hctz, Nat.eq_of_testBit_eq fun q => ?_⟩
 rw [clear_bit h0 (lft_lt h x k), Bool.eq_iff_iff, Bool.and_eq_true, lft_bit h, lft_bit h]
 constructor
 · rintro ⟨⟨i, hi, h1, h2, h3⟩, h4⟩
   have h4 := of_decide_eq_true h4
   refine ⟨i, hi, ?_, h2, h3⟩
   rcases Nat.lt_trichotomy i j with h5 | h5 | h5
   · have := hno i hi h1 h5; rw [h3] at this; cases this
   · subst h5; exact absurd (by omega) h4
   · omega
 · rintro ⟨i, hi, h1, h2, h3⟩
   refine ⟨⟨i, hi, by omega, h2, h3⟩, decide_eq_true fun e => ?_⟩
   have := rdist_lt h.1 hj hi (by omega)
   omega
theorem lft_none {S : List Sk} (h : rok S) {x : Nd} {k : Nat} (h0 : lft S x k = 0) : ∀ i (hi : i < S.length), k ≤ i → usesB x S[i] = false := fun i hi h1 => by
 cases hu : usesB x S[i] with
 | false => rfl
 | true =>
   have hr := h.2 _ (List.getElem_mem hi)
   have : (lft S x k).testBit S[i].round.toNat = true := (lft_bit h x k _).2 ⟨i, hi, h1, by omega, hu⟩
   rw [h0, Nat.zero_testBit] at this
   cases this
theorem dcS_eq {S : List Sk} {D : List Nd} {x : Nd} (h : rok S) (hc : ∀ s ∈ S, 0 ≤ s.copies) {i : Nat} (hi : i < S.length) (hs : canS x S[i]) : dcS S D i = srvL (msS D S) ((cpS S).set S[i].round.toNat ((cpS S).getD S[i].round.toNat 0 - 1)) := by
 unfold dcS
 rw [lgR_len (rok_dec h i) (copies_dec hc hi hs), cpS_dec h hi]
 congr 1
 exact List.map_congr_left fun n _ => usM_dec S i (fun s hs => (h.2 s hs).1) n
end Go.Proofs.YthldjgjpokjliaaDoor
/- Schedules: the reference's Decide. Conditions: none. -/
namespace Go.Proofs.YthldjgjpokjliaaDoor
open Go.Avc
attribute [local irreducible] PSub Wp PSpec Le Need Both
theorem rDecide_spec (S : List Sk) (D : List Nd) (x : Nd) (day : Int) (h : Small S D) (hx : x.rounds.length ≤ 1000) : PSpec Tryd.prog 20 [encSks S, encNds D, .agg (encNd x), .int day] (decE S D x day) := by
 obtain ⟨hS, hD, hn⟩ := h
 have lS : (S.map encSk).length = S.length := List.length_map ..
 have lD : (D.map encNd).length = D.length := List.length_map ..
 have qk := rcheck_spec S D (by omega) (by omega) (fun n hm => by have := hn n hm; omega)
 have qn := rneed_spec x (by omega)
 by_cases hk : chkP S D
 case neg =>
   rw [show decE S D x day = .tup [.int 0, .int 0, .int 320] from if_neg fun h => hk h.1]
   rw [show chkE S D = 320 from if_neg hk] at qk
   refine PSpec.of_vc (fun Γ => more8 false Γ.P Γ.fx) (fun Γ => more8_ok) Tryd.func20 rfl Tryd.call20 (by simp) ?_
   rintro ⟨P, N, w0, X, β0, fx, y, hy, pk, df⟩ rfl rfl rfl hoff rfl; change y.on = false at hoff
   skip
   refine .inl ⟨_, qk, ?_⟩
   skip
   exact PSub.refl _
 rw [show chkE S D = 0 from if_pos hk] at qk
 by_cases hnx : ndP x
 case neg =>
   rw [show decE S D x day = .tup [.int 0, .int 0, .int 320] from if_neg fun h => hnx h.2.1]
   rw [decide_eq_false hnx] at qn
   refine PSpec.of_vc (fun Γ => more8 false Γ.P Γ.fx) (fun Γ => more8_ok) Tryd.func20 rfl Tryd.call20 (by simp) ?_
   rintro ⟨P, N, w0, X, β0, fx, y, hy, pk, df⟩ rfl rfl rfl hoff rfl; change y.on = false at hoff
   skip
   refine .inl ⟨_, qk, ?_⟩
   skip
   refine .inl ⟨_, qn, ?_⟩
   skip
   exact PSub.refl _
 rw [decide_eq_true hnx] at qn
 by_cases hd0 : day < 0
 · rw [show decE S D x day = .tup [.int 0, .int 0, .int 320] from if_neg fun h => by omega]
   refine PSpec.of_vc (fun Γ => more8 false Γ.P Γ.fx) (fun Γ => more8_ok) Tryd.func20 rfl Tryd.call20 (by simp) ?_
   rintro ⟨P, N, w0, X, β0, fx, y, hy, pk, df⟩ rfl rfl rfl hoff rfl; change y.on = false at hoff
   skip
   refine .inl ⟨_, qk, ?_⟩
   skip
   refine .inl ⟨_, qn, ?_⟩
   repeat' ((try conv => whnf); first|(first|refine k3 ?_ ?_|refine k4 ?_ ?_) <;> intro hb <;> (try rw [lM] at hb) <;> try (exfalso; omega)|fail)
   exact PSub.refl _
 by_cases hd1 : x.to ≤ day
 · rw [show decE S D x day = .tup [.int 0, .int 0, .int 320] from if_neg fun h => by omega]
   refine PSpec.of_vc (fun Γ => more8 false Γ.P Γ.fx) (fun Γ => more8_ok) Tryd.func20 rfl Tryd.call20 (by simp) ?_
   rintro ⟨P, N, w0, X, β0, fx, y, hy, pk, df⟩ rfl rfl rfl hoff rfl; change y.on = false at hoff
   skip
   refine .inl ⟨_, qk, ?_⟩
   skip
   refine .inl ⟨_, qn, ?_⟩
   repeat' ((try conv => whnf); first|(first|refine k3 ?_ ?_|refine k4 ?_ ?_) <;> intro hb <;> (try rw [lM] at hb) <;> try (exfalso; omega)|fail)
   exact PSub.refl _
 have hres : decE S D x day = _ := if_pos ⟨hk, hnx, by omega, by omega⟩
 rw [hres]
 obtain ⟨hr, hc0⟩ := chk_rok hk
 have hc16 : ∀ s ∈ S, s.copies ≤ 16 := fun s hs => (hk.2.2.1 s hs).2.1
 obtain ⟨n1, n2, n3, n4, _⟩ := hnx
 refine PSpec.of_vc (fun Γ => more8 false Γ.P Γ.fx) (fun Γ => more8_ok) Tryd.func20 rfl Tryd.call20 (by simp) ?_
 rintro ⟨P, N, w0, X, β0, fx, y, hy, pk, df⟩ rfl rfl rfl hoff rfl; change y.on = false at hoff
 skip
 refine .inl ⟨_, qk, ?_⟩
 skip
 refine .inl ⟨_, qn, ?_⟩
 repeat' ((try conv => whnf); first|(first|refine k3 ?_ ?_|refine k4 ?_ ?_) <;> intro hb <;> (try rw [lM] at hb) <;> try (exfalso; omega)|fail)
 refine Wp.loop (fun i : Nat => ⟨[(0, .pure (encSks S)), (1, .pure (encNds D)), (3, .int day), (6, .loc 6 0 0), (12, .int (dcT S D x i).1), (13, .int (dcT S D x i).2), (14, .int i)], [(6, some (.box (pures (encNd x))))], [6]⟩) (fun i => i ≤ S.length) (fun i => S.length - i) 0
   (Le.of ?_ ?_ rfl rfl rfl) (Nat.zero_le _) ?_
 · (repeat' (first|exact trivial|refine aq ?_ ?_|exact oq|fail))
 · (repeat' (first|exact trivial|refine aq ?_ ?_|refine Exists.intro _ (aq rfl ?_)|exact oq|fail))
 rintro i hi
 by_cases hi2 : i < S.length
 · have hnx := dcT_next S D x i
   rw [dcF_at hi2] at hnx
   obtain ⟨st, hst⟩ : ∃ st, st = dcT S D x i := ⟨_, rfl⟩
   rw [← hst] at hnx ⊢
   have qu := uses_spec x S[i] (by omega)
   have hci := hc0 _ (List.getElem_mem hi2)
   have hci2 := hc16 _ (List.getElem_mem hi2)
   by_cases h0 : S[i].copies = 0
   · rw [if_neg fun h => h.1.1 h0] at hnx
     refine code_sound (more := more8 false _ _) more8_ok FOK.wide _ ?_
     repeat' ((try conv => whnf); first|(first|refine k3 ?_ ?_|refine k4 ?_ ?_) <;> intro hb <;> (try rw [lM] at hb) <;> try (exfalso; omega)|fail)
     refine Wp.draw (more := more8 true _ _) more8_det more8_ok FOK.wide rfl (by decide +kernel) (by conv => lhs; reduce) ?_
     repeat' ((try conv => whnf); first|(first|refine k3 ?_ ?_|refine k4 ?_ ?_) <;> intro hb <;> (try rw [lM] at hb) <;> try (exfalso; omega)|refine s4 nm ?_|refine s5 nm nm ?_|fail)
     refine ⟨i + 1, Le.of ?_ (by (repeat' (first|exact trivial|refine aq ?_ ?_|refine Exists.intro _ (aq rfl ?_)|exact oq|fail))) rfl rfl rfl, by omega, by omega⟩
     rw [hnx]
     (repeat' (first|exact trivial|refine aq ?_ ?_|exact oq|fail))
   by_cases hu : usesB x S[i] = true
   case neg =>
     rw [if_neg fun h => hu h.1.2] at hnx
     rw [Bool.not_eq_true] at hu
     rw [hu] at qu
     refine code_sound (more := more8 false _ _) more8_ok FOK.wide _ ?_
     repeat' ((try conv => whnf); first|(first|refine k3 ?_ ?_|refine k4 ?_ ?_) <;> intro hb <;> (try rw [lM] at hb) <;> try (exfalso; omega)|fail)
     refine Wp.draw (more := more8 true _ _) more8_det more8_ok FOK.wide rfl (by decide +kernel) (by conv => lhs; reduce) ?_
     repeat' ((try conv => whnf); first|(first|refine k3 ?_ ?_|refine k4 ?_ ?_) <;> intro hb <;> (try rw [lM] at hb) <;> try (exfalso; omega)|refine s5 nm nm ?_|fail)
     refine ⟨_, qu, ?_⟩
     repeat' ((try conv => whnf); first|refine s4 nm ?_|fail)
     refine ⟨i + 1, Le.of ?_ (by (repeat' (first|exact trivial|refine aq ?_ ?_|refine Exists.intro _ (aq rfl ?_)|exact oq|fail))) rfl rfl rfl, by omega, by omega⟩
     rw [hnx]
     (repeat' (first|exact trivial|refine aq ?_ ?_|exact oq|fail))
   rw [hu] at qu
   have hcs : canS x S[i] := ⟨h0, hu⟩
   have hpt : 0 + ((i : Nat) : Int).toNat < S.length := by omega
   have hE : S[0 + ((i : Nat) : Int).toNat] = S[i] := by simp only [Nat.zero_add, Int.toNat_natCast]
   have hcb : 1 ≤ (S[0 + ((i : Nat) : Int).toNat]).copies ∧ (S[0 + ((i : Nat) : Int).toNat]).copies ≤ 16 := by
     rw [hE]
     omega
   have hrow : (([] : List (List PV)) ++ S.map encSk).set (0 + ((i : Nat) : Int).toNat) (((([] : List (List PV)) ++ S.map encSk).getD (0 + ((i : Nat) : Int).toNat) []).set 1 (.int ((S[0 + ((i : Nat) : Int).toNat]).copies - 1))) = (decAt S i).map encSk := by
     have := row_dec hi2 (x := (S[0 + ((i : Nat) : Int).toNat]).copies - 1) (by rw [hE])
     simp only [Nat.zero_add, Int.toNat_natCast, List.nil_append] at this ⊢
     exact this
   have ql : PSpec Tryd.prog 26 [.sl 3 (List.take (([] : List (List PV)).length + (S.map encSk).length) (List.drop 0 ((([] : List (List PV)) ++ S.map encSk).set (0 + ((i : Nat) : Int).toNat) (((([] : List (List PV)) ++ S.map encSk).getD (0 + ((i : Nat) : Int).toNat) []).set 1 (.int ((S[0 + ((i : Nat) : Int).toNat]).copies - 1)))))), encNds D] (encIs (lgR D (decAt S i))) := by
     rw [hrow, List.drop_zero, List.take_of_length_le (by simp [decAt_len])]
     refine rlongest_spec _ D (rok_dec hr i) (copies_dec hc0 hi2 hcs) (by rw [decAt_len]; exact hS) hD hn fun s hs => ?_
     obtain ⟨j, hj, rfl⟩ := List.getElem_of_mem hs
     have hj' : j < S.length := by rwa [decAt_len] at hj
     have hcj := hc16 _ (List.getElem_mem hj')
     rw [decAt_get hj']
     split
     · show S[j].copies - 1 ≤ _
       omega
     · omega
   have hnl : (lgR D (decAt S i)).length ≤ D.length := by
     rw [lgR_len (rok_dec hr i) (copies_dec hc0 hi2 hcs)]
     have := srvL_le (msS D (decAt S i)) (cpS (decAt S i))
     rwa [msS_len] at this
   have hdc : dcS S D i = (lgR D (decAt S i)).length := rfl
   rw [hdc] at hnx
   obtain ⟨L, hL⟩ : ∃ L, L = lgR D (decAt S i) := ⟨_, rfl⟩
   rw [← hL] at ql hnl hnx
   have lL : (L.map fun x => [PV.int x]).length = L.length := List.length_map ..
   by_cases hlt : st.2 < (L.length : Int)
   · rw [if_pos ⟨hcs, hlt⟩] at hnx
     refine code_sound (more := more8 false _ _) more8_ok FOK.wide _ ?_
     repeat' ((try conv => whnf); first|(first|refine k3 ?_ ?_|refine k4 ?_ ?_) <;> intro hb <;> (try rw [lM] at hb) <;> try (exfalso; omega)|fail)
     refine Wp.draw (more := more8 true _ _) more8_det more8_ok FOK.wide rfl (by decide +kernel) (by conv => lhs; reduce) ?_
     repeat' ((try conv => whnf); first|(first|refine k3 ?_ ?_|refine k4 ?_ ?_) <;> intro hb <;> (try rw [lM] at hb) <;> try (exfalso; omega)|refine s5 nm nm ?_|fail)
     refine ⟨_, qu, ?_⟩
     repeat' ((try conv => whnf); first|refine aq rfl ?_|refine s4 nm ?_|refine aq bd ?_|refine ⟨_, _, getMapN nm, rfl, ?_⟩|refine ⟨_, set_rfl _ _ _, ?_⟩|fail)
     refine .inl ⟨_, ql, ?_⟩
     repeat' ((try conv => whnf); first|(first|refine k3 ?_ ?_|refine k4 ?_ ?_) <;> intro hb <;> (try rw [lM] at hb) <;> try (exfalso; omega)|refine aq rfl ?_|refine s4 nm ?_|refine s5 nm nm ?_|fail)
     refine ⟨i + 1, Le.of ?_ (by (repeat' (first|exact trivial|refine aq ?_ ?_|refine Exists.intro _ (aq rfl ?_)|exact oq|fail))) rfl rfl rfl, by omega, by omega⟩
     rw [hnx]
     (repeat' (first|exact trivial|refine aq ?_ ?_|exact oq|exact l1 bd|fail))
   · rw [if_neg fun h => hlt h.2] at hnx
     refine code_sound (more := more8 false _ _) more8_ok FOK.wide _ ?_
     repeat' ((try conv => whnf); first|(first|refine k3 ?_ ?_|refine k4 ?_ ?_) <;> intro hb <;> (try rw [lM] at hb) <;> try (exfalso; omega)|fail)
     refine Wp.draw (more := more8 true _ _) more8_det more8_ok FOK.wide rfl (by decide +kernel) (by conv => lhs; reduce) ?_
     repeat' ((try conv => whnf); first|(first|refine k3 ?_ ?_|refine k4 ?_ ?_) <;> intro hb <;> (try rw [lM] at hb) <;> try (exfalso; omega)|refine s5 nm nm ?_|fail)
     refine ⟨_, qu, ?_⟩
     repeat' ((try conv => whnf); first|refine aq rfl ?_|refine s4 nm ?_|refine aq bd ?_|refine ⟨_, _, getMapN nm, rfl, ?_⟩|refine ⟨_, set_rfl _ _ _, ?_⟩|fail)
     refine .inl ⟨_, ql, ?_⟩
     repeat' ((try conv => whnf); first|(first|refine k3 ?_ ?_|refine k4 ?_ ?_) <;> intro hb <;> (try rw [lM] at hb) <;> try (exfalso; omega)|refine aq rfl ?_|refine s4 nm ?_|fail)
     refine ⟨i + 1, Le.of ?_ (by (repeat' (first|exact trivial|refine aq ?_ ?_|refine Exists.intro _ (aq rfl ?_)|exact oq|fail))) rfl rfl rfl, by omega, by omega⟩
     rw [hnx]
     (repeat' (first|exact trivial|refine aq ?_ ?_|exact oq|fail))
 · have e : i = S.length := by omega
   subst e
   have hsg := dcT_sign (D := D) (x := x) hr S.length
   obtain ⟨st, hst⟩ : ∃ st, st = dcT S D x S.length := ⟨_, rfl⟩
   rw [← hst] at hsg ⊢
   rcases hsg with hs1 | ⟨h1, h2, h3⟩
   · rw [hs1]
     refine code_sound (more := more8 false _ _) more8_ok FOK.wide _ ?_
     repeat' ((try conv => whnf); first|(first|refine k3 ?_ ?_|refine k4 ?_ ?_) <;> intro hb <;> (try rw [lM] at hb) <;> try (exfalso; omega)|fail)
     exact PSub.refl _
   · rw [if_neg (by omega)]
     refine code_sound (more := more8 false _ _) more8_ok FOK.wide _ ?_
     repeat' ((try conv => whnf); first|(first|refine k3 ?_ ?_|refine k4 ?_ ?_) <;> intro hb <;> (try rw [lM] at hb) <;> try (exfalso; omega)|fail)
     refine Wp.draw (more := more8 true _ _) more8_det more8_ok FOK.wide rfl (by decide +kernel) (by conv => lhs; reduce) ?_
     repeat' ((try conv => whnf); first|refine s4 nm ?_|fail)
     exact PSub.refl _
end Go.Proofs.YthldjgjpokjliaaDoor
/- Schedules: the program's Decide. Conditions: none. -/
namespace Go.Proofs.YthldjgjpokjliaaDoor
open Go.Avc
theorem callVC_of {md : Bool} {P : Program} {f : FuncId} {args : List AV} {blk : Nat → Option Blk} {fx : List Nat} {K : Kont} {ps : List PV} {n : Int} (h : toPVL blk args = some ps) (hs : PSpec P f ps (.int n)) (hk : K (.pure (.int n)) []) : callVC md P f args blk fx K := by
 unfold callVC
 rw [h]
 exact ⟨_, hs, hk⟩
theorem cells_pures (cp ms : List Nat) : cellsI cp ++ [AV.pure (encMs ms)] = pures (planC cp ms) := (pures_plan cp ms).symm
theorem cells_at {cp : List Nat} {x : AV} {r : Nat} (h : r < cp.length) : nth (cellsI cp ++ [x]) r = some (AV.int (cp.getD r 0 : Nat)) := by
 rw [nth_eq]
 unfold cellsI
 rw [List.getElem?_append_left (by simpa using h), List.getElem?_map, List.getElem?_eq_getElem h, getD_at h]
 rfl
theorem wait_max (a b : Int) : PSub (.tup [.int a, .int (max b 0), .int 0]) (.tup [.int a, .int (max 0 b), .int 0]) := PSub.of_eq (by rw [show max b 0 = max 0 b by omega])
theorem sub_ren {B : Nat → Option Blk} {σ : Nat → Nat} (cp ms : List Nat) : SubAL B (AV.renL σ (pures (planC cp ms))) (cellsI cp ++ [AV.pure (encMs ms)]) := by
 rw [pures_plan, renL_cells]
 exact subAL_refl _
theorem splice_cells {cp : List Nat} {x : AV} {r c' : Nat} {v : Int} (h : r < cp.length) (hv : v = (c' : Int)) : splice (0 + 0 + r * 1) (cellsI cp ++ [x]) [AV.int v] = some (cellsI (cp.set r c') ++ [x]) := by
 rw [splice_set _ _ _ (by simp [cellsI]; omega), show 0 + 0 + r * 1 = r by omega, hv, cells_set h]
attribute [local irreducible] PSub Wp PSpec Le Need Both
theorem Decide_spec (S : List Sk) (D : List Nd) (x : Nd) (day : Int) (h : Small S D) (hx : x.rounds.length ≤ 1000) : PSpec Tryd.prog 19 [encSks S, encNds D, .agg (encNd x), .int day] (decE S D x day) := by
 obtain ⟨hS, hD, hn⟩ := h
 have lS : (S.map encSk).length = S.length := List.length_map ..
 have lD : (D.map encNd).length = D.length := List.length_map ..
 have qk := check_spec S D (by omega) (by omega) (fun n hm => by have := hn n hm; omega)
 have qn := needOK_spec x (by omega)
 by_cases hk : chkP S D
 case neg =>
   rw [show decE S D x day = .tup [.int 0, .int 0, .int 320] from if_neg fun h => hk h.1]
   rw [show chkE S D = 320 from if_neg hk] at qk
   refine PSpec.of_vc (fun Γ => more8 false Γ.P Γ.fx) (fun Γ => more8_ok) Tryd.func19 rfl Tryd.call19 (by simp) ?_
   rintro ⟨P, N, w0, X, β0, fx, y, hy, pk, df⟩ rfl rfl rfl hoff rfl; change y.on = false at hoff
   skip
   refine .inl ⟨_, qk, ?_⟩
   skip
   exact PSub.refl _
 rw [show chkE S D = 0 from if_pos hk] at qk
 by_cases hnx : ndP x
 case neg =>
   rw [show decE S D x day = .tup [.int 0, .int 0, .int 320] from if_neg fun h => hnx h.2.1]
   rw [decide_eq_false hnx] at qn
   refine PSpec.of_vc (fun Γ => more8 false Γ.P Γ.fx) (fun Γ => more8_ok) Tryd.func19 rfl Tryd.call19 (by simp) ?_
   rintro ⟨P, N, w0, X, β0, fx, y, hy, pk, df⟩ rfl rfl rfl hoff rfl; change y.on = false at hoff
   skip
   refine .inl ⟨_, qk, ?_⟩
   skip
   refine .inl ⟨_, qn, ?_⟩
   skip
   exact PSub.refl _
 rw [decide_eq_true hnx] at qn
 have hnx' := hnx
 obtain ⟨n1, n2, n3, n4, _⟩ := hnx'
 by_cases hd0 : day < 0
 · rw [show decE S D x day = .tup [.int 0, .int 0, .int 320] from if_neg fun h => by omega]
   refine PSpec.of_vc (fun Γ => more8 false Γ.P Γ.fx) (fun Γ => more8_ok) Tryd.func19 rfl Tryd.call19 (by simp) ?_
   rintro ⟨P, N, w0, X, β0, fx, y, hy, pk, df⟩ rfl rfl rfl hoff rfl; change y.on = false at hoff
   skip
   refine .inl ⟨_, qk, ?_⟩
   skip
   refine .inl ⟨_, qn, ?_⟩
   repeat' ((try conv => whnf); first|(first|refine k3 ?_ ?_|refine k4 ?_ ?_) <;> intro hb <;> (try rw [lM] at hb) <;> try (exfalso; omega)|fail)
   exact PSub.refl _
 by_cases hd2 : 1024 ≤ day
 · rw [show decE S D x day = .tup [.int 0, .int 0, .int 320] from if_neg fun h => by omega]
   refine PSpec.of_vc (fun Γ => more8 false Γ.P Γ.fx) (fun Γ => more8_ok) Tryd.func19 rfl Tryd.call19 (by simp) ?_
   rintro ⟨P, N, w0, X, β0, fx, y, hy, pk, df⟩ rfl rfl rfl hoff rfl; change y.on = false at hoff
   skip
   refine .inl ⟨_, qk, ?_⟩
   skip
   refine .inl ⟨_, qn, ?_⟩
   repeat' ((try conv => whnf); first|(first|refine k3 ?_ ?_|refine k4 ?_ ?_) <;> intro hb <;> (try rw [lM] at hb) <;> try (exfalso; omega)|fail)
   exact PSub.refl _
 by_cases hd1 : x.to ≤ day
 · rw [show decE S D x day = .tup [.int 0, .int 0, .int 320] from if_neg fun h => by omega]
   refine PSpec.of_vc (fun Γ => more8 false Γ.P Γ.fx) (fun Γ => more8_ok) Tryd.func19 rfl Tryd.call19 (by simp) ?_
   rintro ⟨P, N, w0, X, β0, fx, y, hy, pk, df⟩ rfl rfl rfl hoff rfl; change y.on = false at hoff
   skip
   refine .inl ⟨_, qk, ?_⟩
   skip
   refine .inl ⟨_, qn, ?_⟩
   repeat' ((try conv => whnf); first|(first|refine k3 ?_ ?_|refine k4 ?_ ?_) <;> intro hb <;> (try rw [lM] at hb) <;> try (exfalso; omega)|fail)
   exact PSub.refl _
 have hres : decE S D x day = _ := if_pos ⟨hk, hnx, by omega, by omega⟩
 rw [hres]
 obtain ⟨hr, hc0⟩ := chk_rok hk
 have hc16 : ∀ s ∈ S, s.copies ≤ 16 := fun s hs => (hk.2.2.1 s hs).2.1
 have qp := newPlan_own S D hr (fun s hs => ⟨hc0 s hs, by have := hc16 s hs; omega⟩) hS hD hn
 have qu := usable_spec S x (by omega) (by omega) hr.2
 have hl0 : usM S x = lft S x 0 := rfl
 rw [hl0] at qu
 refine PSpec.of_vc (fun Γ => more8 false Γ.P Γ.fx) (fun Γ => more8_ok) Tryd.func19 rfl Tryd.call19 (by simp) ?_
 rintro ⟨P, N, w0, X, β0, fx, y, hy, pk, df⟩ rfl rfl rfl hoff rfl; change y.on = false at hoff
 skip
 refine .inl ⟨_, qk, ?_⟩
 skip
 refine .inl ⟨_, qn, ?_⟩
 repeat' ((try conv => whnf); first|(first|refine k3 ?_ ?_|refine k4 ?_ ?_) <;> intro hb <;> (try rw [lM] at hb) <;> try (exfalso; omega)|fail)
 refine .inr ⟨[(11, 42)], [.pure (encSks S), .pure (encNds D)], [], [], [], 1, _, qp, ⟨Or.inl rfl, Or.inl rfl, trivial⟩, trivial, ?_⟩
 skip
 refine .inl ⟨_, qu, ?_⟩
 skip
 refine Wp.loop (fun k : Nat => ⟨[(3, .int day), (6, .loc 6 0 0), (8, .int (if (dcT S D x k).2 < 0 then 0 else (dcT S D x k).1)), (12, .loc 42 0 0), (13, .int (dcT S D x k).2), (14, .pure (.val (.int .u64 (lft S x k : Nat))))], [(42, some (.box (cellsI (cpS S) ++ [.pure (encMs (msS D S))]))), (6, some (.box (pures (encNd x))))], [42, 6]⟩) (fun k => k ≤ S.length) (fun k => S.length - k) 0
   (Le.of ?_ ⟨⟨_, rfl, sub_ren _ _⟩, ?_⟩ rfl (subB_cells rfl) rfl) (Nat.zero_le _) ?_
 · (repeat' (first|exact trivial|refine aq ?_ ?_|exact oq|fail))
 · (repeat' (first|exact trivial|refine aq ?_ ?_|refine Exists.intro _ (aq rfl ?_)|exact oq|fail))
 rintro k hk
 have hcl := cpS_len S
 have hsg := dcT_sign (D := D) (x := x) hr k
 have hle2 := dcT_le (D := D) (x := x) hr hc0 k
 by_cases h0 : lft S x k = 0
 · have hno := lft_none hr h0
   have hend : dcT S D x S.length = dcT S D x k := by
     have := dcT_skip (S := S) (D := D) (x := x) (k := k) (S.length - k) fun i hi h1 _ hcs => by
       have := hno i hi h1
       rw [hcs.2] at this; cases this
     rwa [show k + (S.length - k) = S.length by omega] at this
   rw [hend, h0]
   obtain ⟨st, hst⟩ : ∃ st, st = dcT S D x k := ⟨_, rfl⟩
   rw [← hst] at hsg ⊢
   rcases hsg with hs1 | ⟨h1, h2, h3⟩
   · rw [hs1]
     refine code_sound (more := more8 false _ _) more8_ok FOK.wide _ ?_
     skip
     exact PSub.refl _
   · rw [if_neg (by omega), if_neg (by omega)]
     refine code_sound (more := more8 false _ _) more8_ok FOK.wide _ ?_
     repeat' ((try conv => whnf); first|(first|refine k3 ?_ ?_|refine k4 ?_ ?_) <;> intro hb <;> (try rw [lM] at hb) <;> try (exfalso; omega)|fail)
     refine Wp.draw (more := more8 true _ _) more8_det more8_ok FOK.wide rfl (by decide +kernel) (by conv => lhs; reduce) ?_
     repeat' ((try conv => whnf); first|refine s4 nm ?_|fail)
     first
       | exact PSub.refl _
       | exact wait_max _ _
 obtain ⟨j, hj, hkj, huj, hbet, hctz, hclr⟩ := lft_next hr h0
 have hlt := lft_lt hr x k
 have hrj := hr.2 _ (List.getElem_mem hj)
 have hskip : dcT S D x j = dcT S D x k := by
   have := dcT_skip (S := S) (D := D) (x := x) (k := k) (j - k) fun i hi h1 h2 hcs => by
     have := hbet i hi h1 (by omega)
     rw [hcs.2] at this; cases this
   rwa [show k + (j - k) = j by omega] at this
 have hnx := dcT_next S D x j
 rw [hskip, dcF_at hj] at hnx
 have qz := tz_spec (lft S x k) hlt
 have e3 : IntKind.u64.wrap ((lft S x k : Int) - 1) = ((lft S x k - 1 : Nat) : Int) := by rw [wrap_u64]; omega
 have e4 := bits_and_u64_nat (lft S x k) (lft S x k - 1) hlt (by omega)
 rw [hclr] at e4
 obtain ⟨r, hrd⟩ : ∃ r, r = Lib.ctz 64 (lft S x k) := ⟨_, rfl⟩
 rw [← hrd] at hctz qz
 have hr64 : r < 64 := by omega
 have hcpr := copies_at hr hc0 _ (List.getElem_mem hj)
 rw [← hctz, Int.toNat_natCast] at hcpr
 have hcb := cpS_bd hr hc16 r
 obtain ⟨lf, hlf⟩ : ∃ lf, lf = lft S x k := ⟨_, rfl⟩
 rw [← hlf] at h0 hlt e3 e4 qz ⊢
 obtain ⟨st, hst⟩ : ∃ st, st = dcT S D x k := ⟨_, rfl⟩
 rw [← hst] at hsg hnx hle2 ⊢
 have hsv : ∀ v : Int, (v = if st.2 < 0 then 0 else st.1) → v = if st.2 < 0 then 0 else st.1 := fun v h => h
 obtain ⟨rd, hrdd⟩ : ∃ rd, rd = if st.2 < 0 then 0 else st.1 := ⟨_, rfl⟩
 rw [← hrdd]
 obtain ⟨c, hc⟩ : ∃ c, c = (cpS S).getD r 0 := ⟨_, rfl⟩
 have hat : nth (cellsI (cpS S) ++ [AV.pure (encMs (msS D S))]) (0 + 0 + ((r : Nat) : Int).toNat * 1) = some (AV.int c) := by
   rw [Int.toNat_natCast, show 0 + 0 + r * 1 = r by omega, cells_at (by omega), hc]
 by_cases hc0' : c = 0
 · subst hc0'
   rw [if_neg fun h => h.1.1 (by omega)] at hnx
   have hnx2 : (if (dcT S D x (j + 1)).2 < 0 then 0 else (dcT S D x (j + 1)).1) = rd := by rw [hnx, hrdd]
   refine code_sound (more := more8 false _ _) more8_ok FOK.wide _ ?_
   repeat' ((try conv => whnf); first|(first|refine k3 ?_ ?_|refine k4 ?_ ?_) <;> intro hb <;> (try rw [lM] at hb) <;> try (exfalso; omega)|fail)
   refine .inl ⟨_, qz, ?_⟩
   repeat' ((try conv => whnf); first|refine aq bd ?_|fail)
   conv => whnf
   refine match_some hat ?_
   skip
   refine ⟨_, e3, ?_⟩
   skip
   refine ⟨_, e4, ?_⟩
   skip
   refine ⟨j + 1, Le.of ?_ ⟨⟨_, rfl, subAL_refl _⟩, ?_⟩ rfl (subB_cells rfl) rfl, by omega, by omega⟩
   · rw [hnx2, hnx]
     (repeat' (first|exact trivial|refine aq ?_ ?_|exact oq|fail))
   · (repeat' (first|exact trivial|refine aq ?_ ?_|refine Exists.intro _ (aq rfl ?_)|exact oq|fail))
 have hcs : canS x S[j] := ⟨by omega, huj⟩
 have hdc := dcS_eq (D := D) hr hc0 hj hcs
 rw [← hctz, Int.toNat_natCast, ← hc] at hdc
 rw [hdc] at hnx
 have hml := msS_len D S
 obtain ⟨cp', hcp'⟩ : ∃ cp', cp' = (cpS S).set r (c - 1) := ⟨_, rfl⟩
 have hcl' : cp'.length = 64 := by rw [hcp', List.length_set, hcl]
 have hback : cp'.set r c = cpS S := by
   rw [hcp', List.set_set, hc, getD_at (by omega)]
   exact List.set_getElem_self (by omega)
 have hcr' : cp'.getD r 0 = c - 1 := by rw [hcp', getD_set_eq (by omega)]
 have hcb' : ∀ q, cp'.getD q 0 ≤ 1000 := fun q => by
   by_cases e : r = q
   · rw [← e, hcr']; omega
   · rw [hcp', getD_set_ne e]
     have := cpS_bd hr hc16 q
     omega
 have qs := served_spec (msS D S) cp' (msS D S) (by omega) (fun i => msS_lt hr i) hcl' hcb'
 rw [← hcp'] at hnx
 have hnl := srvL_le (msS D S) cp'
 obtain ⟨n, hnd⟩ : ∃ n, n = srvL (msS D S) cp' := ⟨_, rfl⟩
 rw [← hnd] at qs hnx hnl
 have hsp1 : splice (0 + 0 + ((r : Nat) : Int).toNat * 1) (cellsI (cpS S) ++ [AV.pure (encMs (msS D S))]) [AV.int ((c : Int) - 1)] = some (cellsI cp' ++ [AV.pure (encMs (msS D S))]) := by
   rw [Int.toNat_natCast, hcp']
   exact splice_cells (by omega) (by omega)
 have hat' : nth (cellsI cp' ++ [AV.pure (encMs (msS D S))]) (0 + 0 + ((r : Nat) : Int).toNat * 1) = some (AV.int (c - 1 : Nat)) := by
   rw [Int.toNat_natCast, show 0 + 0 + r * 1 = r by omega, cells_at (by omega), hcr']
 have hsp2 : splice (0 + 0 + ((r : Nat) : Int).toNat * 1) (cellsI cp' ++ [AV.pure (encMs (msS D S))]) [AV.int (((c - 1 : Nat) : Int) + 1)] = some (cellsI (cpS S) ++ [AV.pure (encMs (msS D S))]) := by
   rw [Int.toNat_natCast, ← hback]
   exact splice_cells (by omega) (by omega)
 have htp : purL (cellsI cp' ++ [AV.pure (encMs (msS D S))]) = some (planC cp' (msS D S)) := by rw [cells_pures, purL_pures]
 have hck : (((c - 1 : Nat) : Nat) : Int) ≤ 1000 := by omega
 by_cases hbt : st.2 < (n : Int)
 · rw [if_pos ⟨hcs, hbt⟩] at hnx
   have hnx2 : (if (dcT S D x (j + 1)).2 < 0 then 0 else (dcT S D x (j + 1)).1) = S[j].round := by rw [hnx, if_neg (by show ¬ (n : Int) < 0; omega)]
   have hnx3 : (dcT S D x (j + 1)).2 = n := by rw [hnx]
   rw [← hctz] at hnx2
   refine code_sound (more := more8 false _ _) more8_ok FOK.wide _ ?_
   repeat' ((try conv => whnf); first|(first|refine k3 ?_ ?_|refine k4 ?_ ?_) <;> intro hb <;> (try rw [lM] at hb) <;> try (exfalso; omega)|fail)
   refine .inl ⟨_, qz, ?_⟩
   repeat' ((try conv => whnf); first|refine aq bd ?_|fail)
   conv => whnf
   refine match_some hat ?_
   repeat' ((try conv => whnf); first|(first|refine k3 ?_ ?_|refine k4 ?_ ?_) <;> intro hb <;> (try rw [lM] at hb) <;> try (exfalso; omega)|fail)
   refine Wp.draw (more := more8 true _ _) more8_det more8_ok FOK.wide rfl (by decide +kernel) (by conv => lhs; reduce) ?_
   repeat' ((try conv => whnf); first|refine aq bd ?_|fail)
   conv => whnf
   refine match_some hat ?_
   repeat' ((try conv => whnf); first|refine aq rfl ?_|refine s4 nm ?_|refine aq bd ?_|fail)
   conv => whnf
   refine match_list hsp1 ?_
   rw [forceC_eq]
   skip
   conv => whnf
   refine match_some (cells_nth _ _ hcl') ?_
   skip
   refine .inl (callVC_of (ps := [.ptr (planC cp' (msS D S)), encMs (msS D S)]) ?_ qs ?_)
   · show ((match purL (cellsI cp' ++ [AV.pure (encMs (msS D S))]) with | some ps => some (PV.ptr (dropPV 0 ps)) | none => none).bind fun p => (some [encMs (msS D S)]).map (p :: ·)) = _
     rw [htp]
     rfl
   repeat' ((try conv => whnf); first|(first|refine k3 ?_ ?_|refine k4 ?_ ?_) <;> intro hb <;> (try rw [lM] at hb) <;> try (exfalso; omega)|fail)
   refine Wp.draw (more := more8 true _ _) more8_det more8_ok FOK.wide rfl (by decide +kernel) (by conv => lhs; reduce) ?_
   repeat' ((try conv => whnf); first|refine aq bd ?_|fail)
   conv => whnf
   refine match_some hat' ?_
   repeat' ((try conv => whnf); first|refine aq rfl ?_|refine s4 nm ?_|refine aq bd ?_|fail)
   conv => whnf
   refine match_list hsp2 ?_
   rw [forceC_eq]
   skip
   refine ⟨_, e3, ?_⟩
   skip
   refine ⟨_, e4, ?_⟩
   skip
   refine ⟨j + 1, Le.of ?_ ⟨⟨_, rfl, subAL_refl _⟩, ?_⟩ rfl (subB_cells rfl) rfl, by omega, by omega⟩
   · rw [hnx2, hnx3]
     (repeat' (first|exact trivial|refine aq ?_ ?_|exact oq|fail))
   · (repeat' (first|exact trivial|refine aq ?_ ?_|refine Exists.intro _ (aq rfl ?_)|exact oq|fail))
 · rw [if_neg fun h => hbt h.2] at hnx
   have hnx2 : (if (dcT S D x (j + 1)).2 < 0 then 0 else (dcT S D x (j + 1)).1) = rd := by rw [hnx, hrdd]
   have hnx3 : (dcT S D x (j + 1)).2 = st.2 := by rw [hnx]
   refine code_sound (more := more8 false _ _) more8_ok FOK.wide _ ?_
   repeat' ((try conv => whnf); first|(first|refine k3 ?_ ?_|refine k4 ?_ ?_) <;> intro hb <;> (try rw [lM] at hb) <;> try (exfalso; omega)|fail)
   refine .inl ⟨_, qz, ?_⟩
   repeat' ((try conv => whnf); first|refine aq bd ?_|fail)
   conv => whnf
   refine match_some hat ?_
   repeat' ((try conv => whnf); first|(first|refine k3 ?_ ?_|refine k4 ?_ ?_) <;> intro hb <;> (try rw [lM] at hb) <;> try (exfalso; omega)|fail)
   refine Wp.draw (more := more8 true _ _) more8_det more8_ok FOK.wide rfl (by decide +kernel) (by conv => lhs; reduce) ?_
   repeat' ((try conv => whnf); first|refine aq bd ?_|fail)
   conv => whnf
   refine match_some hat ?_
   repeat' ((try conv => whnf); first|refine aq rfl ?_|refine s4 nm ?_|refine aq bd ?_|fail)
   conv => whnf
   refine match_list hsp1 ?_
   rw [forceC_eq]
   skip
   conv => whnf
   refine match_some (cells_nth _ _ hcl') ?_
   skip
   refine .inl (callVC_of (ps := [.ptr (planC cp' (msS D S)), encMs (msS D S)]) ?_ qs ?_)
   · show ((match purL (cellsI cp' ++ [AV.pure (encMs (msS D S))]) with | some ps => some (PV.ptr (dropPV 0 ps)) | none => none).bind fun p => (some [encMs (msS D S)]).map (p :: ·)) = _
     rw [htp]
     rfl
   repeat' ((try conv => whnf); first|(first|refine k3 ?_ ?_|refine k4 ?_ ?_) <;> intro hb <;> (try rw [lM] at hb) <;> try (exfalso; omega)|fail)
   refine Wp.draw (more := more8 true _ _) more8_det more8_ok FOK.wide rfl (by decide +kernel) (by conv => lhs; reduce) ?_
   repeat' ((try conv => whnf); first|refine aq bd ?_|fail)
   conv => whnf
   refine match_some hat' ?_
   repeat' ((try conv => whnf); first|refine aq rfl ?_|refine s4 nm ?_|refine aq bd ?_|fail)
   conv => whnf
   refine match_list hsp2 ?_
   rw [forceC_eq]
   skip
   refine ⟨_, e3, ?_⟩
   skip
   refine ⟨_, e4, ?_⟩
   skip
   refine ⟨j + 1, Le.of ?_ ⟨⟨_, rfl, subAL_refl _⟩, ?_⟩ rfl (subB_cells rfl) rfl, by omega, by omega⟩
   · rw [hnx2, hnx3]
     (repeat' (first|exact trivial|refine aq ?_ ?_|exact oq|fail))
   · (repeat' (first|exact trivial|refine aq ?_ ?_|refine Exists.intro _ (aq rfl ?_)|exact oq|fail))
end Go.Proofs.YthldjgjpokjliaaDoor
