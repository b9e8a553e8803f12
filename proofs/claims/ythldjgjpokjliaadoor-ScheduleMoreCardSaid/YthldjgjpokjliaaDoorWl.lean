/- Schedules: the reference's longest and Longest; the program's members of a set. Conditions: none. -/
import Derived.Test.YthldjgjpokjliaaDoorWd
import Derived.Test.YthldjgjpokjliaaDoorWk
set_option linter.unusedSimpArgs false
set_option linter.unusedVariables false
set_option maxRecDepth 20000
set_option maxHeartbeats 4000000
namespace Go.Proofs.YthldjgjpokjliaaDoor
open Go.Avc
attribute [local irreducible] PSub Wp PSpec Le Need Both
theorem nilsl {C : Nat → Option Blk} {l : List Int} (h : l = []) : SubA C (.pure (.val (.slice none 0 0))) (.pure (encIs l)) := by subst h; exact Or.inr (Or.inr (Or.inl ⟨_, _, rfl, rfl, PSub.nil 1⟩))
theorem rlongest_spec (S : List Sk) (D : List Nd) (hr : rok S) (hc0 : ∀ s ∈ S, 0 ≤ s.copies) (hS : S.length ≤ 1000) (hD : D.length ≤ 1000) (hn : ∀ n ∈ D, n.rounds.length ≤ 1000) (hc : ∀ s ∈ S, s.copies ≤ 1000000) :
   PSpec Tryd.prog 26 [encSks S, encNds D] (encIs (lgR D S)) := by
 have lD : (D.map encNd).length = D.length := List.length_map ..
 have hs0 : svcR (D.take 0) S = some [] := rfl
 refine PSpec.of_vc (fun Γ => more8 false Γ.P Γ.fx) (fun Γ => more8_ok) Tryd.func26 rfl Tryd.call26 (by simp) ?_
 rintro ⟨P, N, w0, X, β0, fx, y, hy, pk, df⟩ rfl rfl rfl hoff rfl; change y.on = false at hoff
 skip
 refine Wp.loop (fun k : Nat => ⟨[(0, .pure (encSks S)), (1, .pure (encNds D)), (5, .pure (encIs (lgN D S (k - 1)))), (6, .int k)], [], []⟩) (fun k => k ≤ D.length + 1) (fun k => D.length + 1 - k) 0
   (Le.of ?_ ?_ rfl rfl rfl) (Nat.zero_le _) ?_
 · (repeat' (first|exact trivial|refine aq ?_ ?_|exact oq|fail))
   all_goals exact nilsl rfl
 · (repeat' (first|exact trivial|fail))
 rintro k hk
 by_cases hk2 : k ≤ D.length
 · have hcut : cut (D.map encNd) 0 k = (D.take k).map encNd := by
     unfold cut
     rw [List.drop_zero, Nat.sub_zero, ← List.map_take]
   have hlt : (D.take k).length = k := by rw [List.length_take]; omega
   have q0 := service_spec (D.take k) S hS (by omega) (fun n h => hn n (List.mem_of_mem_take h)) fun s hs => by have := hc0 s hs; have := hc s hs; omega
   have q : PSpec Tryd.prog 41 [encSks S, .sl 4 (cut (D.map encNd) 0 ((k : Nat) : Int).toNat)] (svcE (svcR (D.take k) S)) := by
     rw [Int.toNat_natCast, hcut]; exact q0
   cases hs : svcR (D.take k) S with
   | some l =>
     rw [hs] at q
     refine code_sound (more := more8 false _ _) more8_ok FOK.wide _ ?_
     repeat' ((try conv => whnf); first|(first|refine k3 ?_ ?_|refine k4 ?_ ?_) <;> intro hb <;> (try rw [lM] at hb) <;> try (exfalso; omega)|refine aq bd ?_|fail)
     refine .inl ⟨_, q, ?_⟩
     repeat' ((try conv => whnf); first|refine aq rfl ?_|refine s4 nm ?_|fail)
     refine ⟨k + 1, Le.of ?_ (by (repeat' (first|exact trivial|fail))) rfl rfl rfl, by omega, by omega⟩
     rw [Nat.add_sub_cancel, lgN_some hs]
     (repeat' (first|exact trivial|refine aq ?_ ?_|exact oq|fail))
   | none =>
     rw [hs] at q
     have hk0 : k ≠ 0 := fun e => by subst e; rw [hs0] at hs; cases hs
     have hres : lgR D S = lgN D S (k - 1) := lgR_stop hr hc0 (by omega) (by rw [Nat.sub_add_cancel (by omega)]; exact hs)
     rw [hres]
     refine code_sound (more := more8 false _ _) more8_ok FOK.wide _ ?_
     repeat' ((try conv => whnf); first|(first|refine k3 ?_ ?_|refine k4 ?_ ?_) <;> intro hb <;> (try rw [lM] at hb) <;> try (exfalso; omega)|refine aq bd ?_|fail)
     refine .inl ⟨_, q, ?_⟩
     repeat' ((try conv => whnf); first|refine aq rfl ?_|fail)
     exact PSub.refl _
 · have e : k = D.length + 1 := by omega
   subst e
   refine code_sound (more := more8 false _ _) more8_ok FOK.wide _ ?_
   repeat' ((try conv => whnf); first|(first|refine k3 ?_ ?_|refine k4 ?_ ?_) <;> intro hb <;> (try rw [lM] at hb) <;> try (exfalso; omega)|fail)
   exact PSub.refl _
end Go.Proofs.YthldjgjpokjliaaDoor
/- Schedules: the reference's Copies, least, Hall and Longest. Conditions: none. -/
namespace Go.Proofs.YthldjgjpokjliaaDoor
open Go.Avc
def cpTm (D : List Nd) (w : List Nat) (s : Sk) : Int := if usU D w s then s.copies else 0
def cpT (S : List Sk) (D : List Nd) (w : List Nat) (i : Nat) : Int := ((S.take i).map (cpTm D w)).sum
theorem cpT_next {S : List Sk} {D : List Nd} {w : List Nat} {i : Nat} (h : i < S.length) : cpT S D w (i + 1) = cpT S D w i + cpTm D w S[i] := by
 unfold cpT
 rw [List.take_succ_eq_append_getElem h, List.map_append, List.sum_append]
 simp
theorem cpT_all {S : List Sk} {D : List Nd} {w : List Nat} : cpT S D w S.length = cpU S D w := by unfold cpT; rw [List.take_length]; rfl
theorem cpT_bd {S : List Sk} {D : List Nd} {w : List Nat} (hc : ∀ s ∈ S, 0 ≤ s.copies ∧ s.copies ≤ 1000000) : ∀ i, i ≤ S.length → 0 ≤ cpT S D w i ∧ cpT S D w i ≤ 1000000 * i
 | 0, _ => by simp [cpT]
 | i + 1, h => by
   have ih := cpT_bd (D := D) (w := w) hc i (by omega)
   have h1 := hc _ (List.getElem_mem (show i < S.length by omega))
   rw [cpT_next (by omega)]
   unfold cpTm
   split <;> omega
theorem find_at {α : Type} {f : Nat → Option α} {a b n : Nat} {l : α} (h1 : a ≤ n) (h2 : n < b) (hb : ∀ q, a ≤ q → q < n → f q = none) (hn : f n = some l) : (List.range' a (b - a)).findSome? f = some l := by
 refine List.findSome?_eq_some_iff.2 ⟨List.range' a (n - a), n, List.range' (n + 1) (b - n - 1), ?_, hn, fun q hq => ?_⟩
 · rw [show b - a = (n - a) + (b - n - 1 + 1) by omega, ← List.range'_append_1, List.range'_succ, show a + (n - a) = n by omega]
 · have := List.mem_range'_1.1 hq
   exact hb q this.1 (by omega)
theorem find_no {α : Type} {f : Nat → Option α} {a b : Nat} (hb : ∀ q, a ≤ q → q < b → f q = none) : (List.range' a (b - a)).findSome? f = none :=
 List.findSome?_eq_none_iff.2 fun q hq => by
   have := List.mem_range'_1.1 hq
   exact hb q this.1 (by omega)
def leE (more : Nat) (w : List Nat) : Option (List Nat) → PV
 | some l => .tup [encIs (natI l), .bool true]
 | none => .tup [encIs (if more = 0 then natI w else []), .bool false]
theorem natI_get {w : List Nat} {k : Nat} (h : k < (natI w).length) : (natI w)[k] = (w.getD k 0 : Nat) := by
 have h2 : k < w.length := by rwa [natI_len] at h
 rw [getD_at h2]
 simp [natI]
theorem getD_mem {w : List Nat} {k : Nat} (h : k < w.length) : w.getD k 0 ∈ w := by rw [getD_at h]; exact List.getElem_mem h
attribute [local irreducible] PSub Wp PSpec Le Need Both
theorem rcopies_spec (S : List Sk) (D : List Nd) (w : List Nat) (hS : S.length ≤ 1000) (hD : D.length ≤ 1000) (hn : ∀ n ∈ D, n.rounds.length ≤ 1000) (hc : ∀ s ∈ S, 0 ≤ s.copies ∧ s.copies ≤ 1000000) (hw : ∀ k ∈ w, k < D.length) (hwl : w.length ≤ 1000) :
   PSpec Tryd.prog 49 [encSks S, encNds D, encIs (natI w)] (.int (cpU S D w)) := by
 have lS : (S.map encSk).length = S.length := List.length_map ..
 have lD : (D.map encNd).length = D.length := List.length_map ..
 have lW : (natI w).length = w.length := natI_len w
 have lW2 : ((natI w).map fun x => [PV.int x]).length = w.length := by rw [List.length_map, lW]
 refine PSpec.of_vc (fun Γ => more8 false Γ.P Γ.fx) (fun Γ => more8_ok) Tryd.func49 rfl Tryd.call49 (by simp) ?_
 rintro ⟨P, N, w0, X, β0, fx, y, hy, pk, df⟩ rfl rfl rfl hoff rfl; change y.on = false at hoff
 skip
 refine Wp.loop (fun i : Nat => ⟨[(0, .pure (encSks S)), (1, .pure (encNds D)), (2, .pure (encIs (natI w))), (7, .int (cpT S D w i)), (8, .int i)], [], []⟩) (fun i => i ≤ S.length) (fun i => S.length - i) 0
   (Le.of ?_ ?_ rfl rfl rfl) (Nat.zero_le _) ?_
 · (repeat' (first|exact trivial|refine aq ?_ ?_|exact oq|fail))
 · (repeat' (first|exact trivial|fail))
 rintro i hi
 by_cases hi2 : i < S.length
 · have hnx := cpT_next (D := D) (w := w) hi2
   have hb := cpT_bd (D := D) (w := w) hc i hi
   have hci := hc _ (List.getElem_mem hi2)
   obtain ⟨t, ht⟩ : ∃ t, t = cpT S D w i := ⟨_, rfl⟩
   rw [← ht] at hnx hb ⊢
   refine code_sound (more := more8 false _ _) more8_ok FOK.wide _ ?_
   repeat' ((try conv => whnf); first|(first|refine k3 ?_ ?_|refine k4 ?_ ?_) <;> intro hb <;> (try rw [lM] at hb) <;> try (exfalso; omega)|fail)
   refine Wp.loop (fun k : Nat => ⟨[(0, .pure (encSks S)), (1, .pure (encNds D)), (2, .pure (encIs (natI w))), (7, .int t), (8, .int i), (9, .int k)], [], []⟩) (fun k => k ≤ w.length ∧ ∀ j, j < k → usesB (D.getD (w.getD j 0) nd0) S[i] = false) (fun k => w.length - k) 0
     (Le.of ?_ ?_ rfl rfl rfl) ⟨Nat.zero_le _, fun j hj => absurd hj (Nat.not_lt_zero _)⟩ ?_
   · (repeat' (first|exact trivial|refine aq ?_ ?_|exact oq|fail))
   · (repeat' (first|exact trivial|fail))
   rintro k ⟨hk, hno⟩
   by_cases hk2 : k < w.length
   · have hkW : k < (natI w).length := by omega
     have hx := natI_get hkW
     have hxm := hw _ (getD_mem hk2)
     obtain ⟨x, hxd⟩ : ∃ x, x = (natI w)[k] := ⟨_, rfl⟩
     rw [← hxd] at hx
     have hxl : ((natI w)[k]).toNat < D.length := by rw [← hxd]; omega
     have hDx : D[((natI w)[k]).toNat] = D.getD (w.getD k 0) nd0 := by
       rw [getD_at hxm]
       congr 1
       rw [← hxd]; omega
     have qu : PSpec Tryd.prog 22 [.agg (encNd (D[((natI w)[k]).toNat])), .agg (encSk S[i])] (.bool (usesB (D.getD (w.getD k 0) nd0) S[i])) := by
       rw [hDx]
       refine uses_spec _ _ ?_
       rw [getD_at hxm]
       have := hn _ (List.getElem_mem hxm)
       omega
     have hx0 : 0 ≤ (natI w)[k] := by rw [← hxd]; omega
     cases hu : usesB (D.getD (w.getD k 0) nd0) S[i] with
     | true =>
       rw [hu] at qu
       have hus : cpTm D w S[i] = S[i].copies := if_pos (List.any_eq_true.2 ⟨_, getD_mem hk2, hu⟩)
       rw [hus] at hnx
       refine code_sound (more := more8 false _ _) more8_ok FOK.wide _ ?_
       repeat' ((try conv => whnf); first|(first|refine k3 ?_ ?_|refine k4 ?_ ?_) <;> intro hb <;> (try rw [lM] at hb) <;> try (exfalso; omega)|fail)
       refine Wp.draw (more := more8 true _ _) more8_det more8_ok FOK.wide rfl (by decide +kernel) (by conv => lhs; reduce) ?_
       repeat' ((try conv => whnf); first|refine s5 nm nm ?_|refine s6 nm nm ?_|fail)
       refine ⟨_, qu, ?_⟩
       repeat' ((try conv => whnf); first|refine s4 nm ?_|refine s5 nm nm ?_|fail)
       refine ⟨i + 1, Le.of ?_ (by (repeat' (first|exact trivial|fail))) rfl rfl rfl, by omega, by omega⟩
       rw [hnx]
       (repeat' (first|exact trivial|refine aq ?_ ?_|exact oq|fail))
     | false =>
       rw [hu] at qu
       refine code_sound (more := more8 false _ _) more8_ok FOK.wide _ ?_
       repeat' ((try conv => whnf); first|(first|refine k3 ?_ ?_|refine k4 ?_ ?_) <;> intro hb <;> (try rw [lM] at hb) <;> try (exfalso; omega)|fail)
       refine Wp.draw (more := more8 true _ _) more8_det more8_ok FOK.wide rfl (by decide +kernel) (by conv => lhs; reduce) ?_
       repeat' ((try conv => whnf); first|refine s5 nm nm ?_|refine s6 nm nm ?_|fail)
       refine ⟨_, qu, ?_⟩
       repeat' ((try conv => whnf); first|refine s4 nm ?_|fail)
       refine ⟨k + 1, Le.of (by (repeat' (first|exact trivial|refine aq ?_ ?_|exact oq|fail))) (by (repeat' (first|exact trivial|fail))) rfl rfl rfl, ⟨by omega, fun j hj => ?_⟩, by omega⟩
       rcases Nat.lt_succ_iff_lt_or_eq.1 hj with h1 | rfl
       · exact hno j h1
       · exact hu
   · have e : k = w.length := by omega
     subst e
     have hus : cpTm D w S[i] = 0 := if_neg (by
       rw [Bool.not_eq_true]
       refine List.any_eq_false.2 fun x hx => ?_
       obtain ⟨j, hj, rfl⟩ := List.getElem_of_mem hx
       have := hno j hj
       rw [getD_at hj] at this
       rw [this]; exact Bool.false_ne_true)
     rw [hus, Int.add_zero] at hnx
     refine code_sound (more := more8 false _ _) more8_ok FOK.wide _ ?_
     repeat' ((try conv => whnf); first|(first|refine k3 ?_ ?_|refine k4 ?_ ?_) <;> intro hb <;> (try rw [lM] at hb) <;> try (exfalso; omega)|refine s4 nm ?_|fail)
     refine ⟨i + 1, Le.of ?_ (by (repeat' (first|exact trivial|fail))) rfl rfl rfl, by omega, by omega⟩
     rw [hnx]
     (repeat' (first|exact trivial|refine aq ?_ ?_|exact oq|fail))
 · have e : i = S.length := by omega
   subst e
   rw [← cpT_all]
   refine code_sound (more := more8 false _ _) more8_ok FOK.wide _ ?_
   repeat' ((try conv => whnf); first|(first|refine k3 ?_ ?_|refine k4 ?_ ?_) <;> intro hb <;> (try rw [lM] at hb) <;> try (exfalso; omega)|fail)
   exact PSub.refl _
theorem least_spec (S : List Sk) (D : List Nd) (bound : Nat) (hS : S.length ≤ 1000) (hD : D.length ≤ 1000) (hn : ∀ n ∈ D, n.rounds.length ≤ 1000) (hc : ∀ s ∈ S, 0 ≤ s.copies ∧ s.copies ≤ 1000000) (hb : bound ≤ D.length) : ∀ (more : Nat) (w : List Nat) (a : Nat), (∀ k ∈ w, k < D.length) → w.length + more ≤ 1000 → a ≤ 1000 →
   PSpec Tryd.prog 37 [encSks S, encNds D, encIs (natI w), .int more, .int a, .int bound] (leE more w (leR S D bound more w a)) := by
 intro more
 induction more with
 | zero =>
   intro w a hw hwl ha
   have qc := rcopies_spec S D w hS hD hn hc hw (by omega)
   have lW2 : ((natI w).map fun x => [PV.int x]).length = w.length := by rw [List.length_map, natI_len]
   have hres : leR S D bound 0 w a = if few S D w then some w else none := rfl
   rw [hres]
   refine PSpec.of_vc (fun Γ => more8 false Γ.P Γ.fx) (fun Γ => more8_ok) Tryd.func37 rfl Tryd.call37 (by simp) ?_
   rintro ⟨P, N, w0, X, β0, fx, y, hy, pk, df⟩ rfl rfl rfl hoff rfl; change y.on = false at hoff
   skip
   refine .inl ⟨_, qc, ?_⟩
   skip
   by_cases hf : few S D w
   · rw [if_pos hf]
     exact PSub.tup ⟨PSub.refl _, PSub.val_bool (decide_eq_true (by show cpU S D w < _; rw [lW2]; exact hf)), trivial⟩
   · rw [if_neg hf]
     exact PSub.tup ⟨PSub.refl _, PSub.val_bool (decide_eq_false (by show ¬ cpU S D w < _; rw [lW2]; exact hf)), trivial⟩
 | succ more ih =>
   intro w a hw hwl ha
   have lW : ((natI w).map fun x => [PV.int x]).length = w.length := by rw [List.length_map, natI_len]
   have lW1 : (natI w).length = w.length := natI_len w
   refine PSpec.of_vc (fun Γ => more8 false Γ.P Γ.fx) (fun Γ => more8_ok) Tryd.func37 rfl Tryd.call37 (by simp) ?_
   rintro ⟨P, N, w0, X, β0, fx, y, hy, pk, df⟩ rfl rfl rfl hoff rfl; change y.on = false at hoff
   skip
   refine Wp.loop (fun n : Nat => ⟨[(0, .pure (encSks S)), (1, .pure (encNds D)), (2, .pure (encIs (natI w))), (3, .int (more + 1 : Nat)), (5, .int bound), (14, .int n)], [], []⟩) (fun n => a ≤ n ∧ (n ≤ bound ∨ n = a) ∧ ∀ q, a ≤ q → q < n → leR S D bound more (w ++ [q]) (q + 1) = none) (fun n => bound - n) a
     (Le.of ?_ ?_ rfl rfl rfl) ⟨Nat.le_refl _, .inr rfl, fun q h1 h2 => absurd h2 (Nat.not_lt.2 h1)⟩ ?_
   · (repeat' (first|exact trivial|refine aq ?_ ?_|exact oq|fail))
   · (repeat' (first|exact trivial|fail))
   rintro n ⟨han, hnb, hbef⟩
   by_cases hn2 : n < bound
   · have q0 := ih (w ++ [n]) (n + 1) (fun k hk => by
       rcases List.mem_append.1 hk with h | h
       · exact hw k h
       · rw [List.mem_singleton.1 h]; omega) (by simp; omega) (by omega)
     have e1 : natI (w ++ [n]) = natI w ++ [(n : Int)] := by simp [natI]
     have hrow : ((([] : List (List PV)) ++ (natI w).map fun x => [PV.int x]) ++ [[PV.int n]]) = (natI (w ++ [n])).map fun x => [PV.int x] := by rw [e1]; simp
     have em : ((more + 1 : Nat) : Int) - 1 = more := by omega
     have en : ((n : Int)) + 1 = ((n + 1 : Nat) : Int) := by omega
     have q1 : PSpec Tryd.prog 37 [encSks S, encNds D, .sl 1 (List.take ((([] : List (List PV)) ++ (natI w).map fun x => [PV.int x]).length + (List.take 1 (List.drop 0 [[PV.int (n : Int)]])).length) (List.drop 0 ((([] : List (List PV)) ++ (natI w).map fun x => [PV.int x]) ++ List.take 1 (List.drop 0 [[PV.int (n : Int)]])))), .int (((more + 1 : Nat) : Int) - 1), .int ((n : Int) + 1), .int bound] (leE more (w ++ [n]) (leR S D bound more (w ++ [n]) (n + 1))) := by
       rw [em, en, show List.take 1 (List.drop 0 [[PV.int (n : Int)]]) = [[PV.int (n : Int)]] from rfl, hrow, List.drop_zero, List.take_of_length_le (by rw [← hrow, List.length_append]; exact Nat.le_refl _)]
       exact q0
     cases hs : leR S D bound more (w ++ [n]) (n + 1) with
     | some l =>
       rw [hs] at q1
       rw [show leR S D bound (more + 1) w a = some l from find_at han hn2 hbef hs]
       refine code_sound (more := more8 false _ _) more8_ok FOK.wide _ ?_
       repeat' ((try conv => whnf); first|(first|refine k3 ?_ ?_|refine k4 ?_ ?_) <;> intro hb <;> (try rw [lM] at hb) <;> try (exfalso; omega)|refine aq rfl ?_|refine s4 nm ?_|refine aq bd ?_|fail)
       refine .inl ⟨_, q1, ?_⟩
       repeat' ((try conv => whnf); first|refine aq rfl ?_|fail)
       exact PSub.tup ⟨PSub.refl _, PSub.refl _, trivial⟩
     | none =>
       rw [hs] at q1
       refine code_sound (more := more8 false _ _) more8_ok FOK.wide _ ?_
       repeat' ((try conv => whnf); first|(first|refine k3 ?_ ?_|refine k4 ?_ ?_) <;> intro hb <;> (try rw [lM] at hb) <;> try (exfalso; omega)|refine aq rfl ?_|refine s4 nm ?_|refine aq bd ?_|fail)
       refine .inl ⟨_, q1, ?_⟩
       repeat' ((try conv => whnf); first|refine aq rfl ?_|refine s4 nm ?_|fail)
       refine ⟨n + 1, Le.of (by (repeat' (first|exact trivial|refine aq ?_ ?_|exact oq|fail))) (by (repeat' (first|exact trivial|fail))) rfl rfl rfl, ⟨by omega, .inl (by omega), fun q h1 h2 => ?_⟩, by omega⟩
       rcases Nat.lt_succ_iff_lt_or_eq.1 h2 with h3 | rfl
       · exact hbef q h1 h3
       · exact hs
   · rw [show leR S D bound (more + 1) w a = none from find_no fun q h1 h2 => hbef q h1 (by omega)]
     refine code_sound (more := more8 false _ _) more8_ok FOK.wide _ ?_
     repeat' ((try conv => whnf); first|(first|refine k3 ?_ ?_|refine k4 ?_ ?_) <;> intro hb <;> (try rw [lM] at hb) <;> try (exfalso; omega)|fail)
     exact PSub.tup ⟨PSub.nil 1, PSub.refl _, trivial⟩
def hallO (S : List Sk) (D : List Nd) : Option (List Nat) := if (lgR D S).length = D.length then none else hallR S D ((lgR D S).length + 1)
def hallE (S : List Sk) (D : List Nd) : PV := if chkP S D then (match hallO S D with | some l => .tup [encIs (natI l), .bool true, .int 0] | none => .tup [encIs [], .bool false, .int 0]) else .tup [encIs [], .bool false, .int 320]
structure Small (S : List Sk) (D : List Nd) : Prop where
 hS : S.length ≤ 1000
 hD : D.length ≤ 1000
 hn : ∀ n ∈ D, n.rounds.length ≤ 1000
theorem chk_small {S : List Sk} {D : List Nd} (h : chkP S D) : ∀ s ∈ S, 0 ≤ s.copies ∧ s.copies ≤ 1000000 := fun s hs => by
 obtain ⟨h1, h2, _⟩ := h.2.2.1 s hs
 omega
theorem rhall_spec (S : List Sk) (D : List Nd) (h : Small S D) : PSpec Tryd.prog 18 [encSks S, encNds D] (hallE S D) := by
 obtain ⟨hS, hD, hn⟩ := h
 have lD : (D.map encNd).length = D.length := List.length_map ..
 have qk := rcheck_spec S D (by omega) (by omega) (fun n hm => by have := hn n hm; omega)
 by_cases hk : chkP S D
 case neg =>
   rw [show hallE S D = .tup [encIs [], .bool false, .int 320] from if_neg hk]
   rw [show chkE S D = 320 from if_neg hk] at qk
   refine PSpec.of_vc (fun Γ => more8 false Γ.P Γ.fx) (fun Γ => more8_ok) Tryd.func18 rfl Tryd.call18 (by simp) ?_
   rintro ⟨P, N, w0, X, β0, fx, y, hy, pk, df⟩ rfl rfl rfl hoff rfl; change y.on = false at hoff
   skip
   refine .inl ⟨_, qk, ?_⟩
   skip
   exact PSub.tup ⟨PSub.nil 1, PSub.refl _, PSub.refl _, trivial⟩
 rw [show chkE S D = 0 from if_pos hk] at qk
 have hres : hallE S D = _ := if_pos hk
 rw [hres]
 obtain ⟨hr, hc0⟩ := chk_rok hk
 have hcs := chk_small hk
 have ql := rlongest_spec S D hr hc0 hS hD hn (fun s hs => (hcs s hs).2)
 have hle : (lgR D S).length ≤ D.length := by
   rw [lgR_len hr hc0]
   have := srvL_le (msS D S) (cpS S)
   rwa [msS_len] at this
 unfold hallO
 obtain ⟨L, hL⟩ : ∃ L, L = lgR D S := ⟨_, rfl⟩
 rw [← hL] at ql hle ⊢
 have lL : (L.map fun x => [PV.int x]).length = L.length := List.length_map ..
 by_cases hfull : L.length = D.length
 · rw [if_pos hfull]
   refine PSpec.of_vc (fun Γ => more8 false Γ.P Γ.fx) (fun Γ => more8_ok) Tryd.func18 rfl Tryd.call18 (by simp) ?_
   rintro ⟨P, N, w0, X, β0, fx, y, hy, pk, df⟩ rfl rfl rfl hoff rfl; change y.on = false at hoff
   skip
   refine .inl ⟨_, qk, ?_⟩
   skip
   refine .inl ⟨_, ql, ?_⟩
   repeat' ((try conv => whnf); first|(first|refine k3 ?_ ?_|refine k4 ?_ ?_) <;> intro hb <;> (try rw [lM] at hb) <;> try (exfalso; omega)|refine aq rfl ?_|fail)
   exact PSub.tup ⟨PSub.nil 1, PSub.refl _, PSub.refl _, trivial⟩
 rw [if_neg hfull]
 refine PSpec.of_vc (fun Γ => more8 false Γ.P Γ.fx) (fun Γ => more8_ok) Tryd.func18 rfl Tryd.call18 (by simp) ?_
 rintro ⟨P, N, w0, X, β0, fx, y, hy, pk, df⟩ rfl rfl rfl hoff rfl; change y.on = false at hoff
 skip
 refine .inl ⟨_, qk, ?_⟩
 skip
 refine .inl ⟨_, ql, ?_⟩
 repeat' ((try conv => whnf); first|(first|refine k3 ?_ ?_|refine k4 ?_ ?_) <;> intro hb <;> (try rw [lM] at hb) <;> try (exfalso; omega)|refine aq rfl ?_|fail)
 refine Wp.loop (fun n : Nat => ⟨[(0, .pure (encSks S)), (1, .pure (encNds D)), (8, .int L.length), (9, .int n)], [], []⟩) (fun n => 1 ≤ n ∧ n ≤ L.length + 2 ∧ ∀ q, 1 ≤ q → q < n → leR S D (L.length + 1) q [] 0 = none) (fun n => L.length + 2 - n) 1
   (Le.of ?_ ?_ rfl rfl rfl) ⟨Nat.le_refl _, by omega, fun q h1 h2 => absurd h2 (Nat.not_lt.2 h1)⟩ ?_
 · (repeat' (first|exact trivial|refine aq ?_ ?_|exact oq|exact l1 bd|fail))
 · (repeat' (first|exact trivial|fail))
 rintro n ⟨h1n, hn2, hbef⟩
 by_cases hlt : n ≤ L.length + 1
 · have q0 := least_spec S D (L.length + 1) hS hD hn hcs (by omega) n [] 0 (fun k hk => by cases hk) (by simp; omega) (by omega)
   have eb : ((L.length : Nat) : Int) + 1 = ((L.length + 1 : Nat) : Int) := by omega
   have q1 : PSpec Tryd.prog 37 [encSks S, encNds D, .val (.slice none 0 0), .int n, .int 0, .int ((L.length : Int) + 1)] (leE n [] (leR S D (L.length + 1) n [] 0)) := by
     rw [eb]
     exact PSpec.args q0 ⟨PSub.refl _, PSub.refl _, PSub.nil 1, PSub.refl _, PSub.refl _, PSub.refl _, trivial⟩
   have hgo : (List.range' 1 (L.length + 1)) = List.range' 1 (L.length + 2 - 1) := rfl
   cases hs : leR S D (L.length + 1) n [] 0 with
   | some l =>
     rw [hs] at q1
     rw [show hallR S D (L.length + 1) = some l from find_at (b := L.length + 2) h1n (by omega) hbef hs]
     refine code_sound (more := more8 false _ _) more8_ok FOK.wide _ ?_
     repeat' ((try conv => whnf); first|(first|refine k3 ?_ ?_|refine k4 ?_ ?_) <;> intro hb <;> (try rw [lM] at hb) <;> try (exfalso; omega)|refine s4 nm ?_|fail)
     refine .inl ⟨_, q1, ?_⟩
     repeat' ((try conv => whnf); first|refine aq rfl ?_|fail)
     exact PSub.refl _
   | none =>
     rw [hs] at q1
     refine code_sound (more := more8 false _ _) more8_ok FOK.wide _ ?_
     repeat' ((try conv => whnf); first|(first|refine k3 ?_ ?_|refine k4 ?_ ?_) <;> intro hb <;> (try rw [lM] at hb) <;> try (exfalso; omega)|refine s4 nm ?_|fail)
     refine .inl ⟨_, q1, ?_⟩
     repeat' ((try conv => whnf); first|refine aq rfl ?_|refine s4 nm ?_|fail)
     refine ⟨n + 1, Le.of (by (repeat' (first|exact trivial|refine aq ?_ ?_|exact oq|fail))) (by (repeat' (first|exact trivial|fail))) rfl rfl rfl, ⟨by omega, by omega, fun q g1 g2 => ?_⟩, by omega⟩
     rcases Nat.lt_succ_iff_lt_or_eq.1 g2 with g3 | rfl
     · exact hbef q g1 g3
     · exact hs
 · rw [show hallR S D (L.length + 1) = none from find_no (b := L.length + 2) fun q g1 g2 => hbef q g1 (by omega)]
   refine code_sound (more := more8 false _ _) more8_ok FOK.wide _ ?_
   repeat' ((try conv => whnf); first|(first|refine k3 ?_ ?_|refine k4 ?_ ?_) <;> intro hb <;> (try rw [lM] at hb) <;> try (exfalso; omega)|refine s4 nm ?_|fail)
   exact PSub.tup ⟨PSub.nil 1, PSub.refl _, PSub.refl _, trivial⟩
def lgE (S : List Sk) (D : List Nd) : PV := if chkP S D then .tup [encIs (lgR D S), .int 0] else .tup [encIs [], .int 320]
theorem rLongest_spec (S : List Sk) (D : List Nd) (h : Small S D) : PSpec Tryd.prog 13 [encSks S, encNds D] (lgE S D) := by
 obtain ⟨hS, hD, hn⟩ := h
 have qk := rcheck_spec S D (by omega) (by omega) (fun n hm => by have := hn n hm; omega)
 by_cases hk : chkP S D
 case neg =>
   rw [show lgE S D = .tup [encIs [], .int 320] from if_neg hk]
   rw [show chkE S D = 320 from if_neg hk] at qk
   refine PSpec.of_vc (fun Γ => more8 false Γ.P Γ.fx) (fun Γ => more8_ok) Tryd.func13 rfl Tryd.call13 (by simp) ?_
   rintro ⟨P, N, w0, X, β0, fx, y, hy, pk, df⟩ rfl rfl rfl hoff rfl; change y.on = false at hoff
   skip
   refine .inl ⟨_, qk, ?_⟩
   skip
   exact PSub.tup ⟨PSub.nil 1, PSub.refl _, trivial⟩
 rw [show chkE S D = 0 from if_pos hk] at qk
 rw [show lgE S D = .tup [encIs (lgR D S), .int 0] from if_pos hk]
 obtain ⟨hr, hc0⟩ := chk_rok hk
 have hcs := chk_small hk
 have ql := rlongest_spec S D hr hc0 hS hD hn (fun s hs => (hcs s hs).2)
 refine PSpec.of_vc (fun Γ => more8 false Γ.P Γ.fx) (fun Γ => more8_ok) Tryd.func13 rfl Tryd.call13 (by simp) ?_
 rintro ⟨P, N, w0, X, β0, fx, y, hy, pk, df⟩ rfl rfl rfl hoff rfl; change y.on = false at hoff
 skip
 refine .inl ⟨_, qk, ?_⟩
 skip
 refine .inl ⟨_, ql, ?_⟩
 repeat' ((try conv => whnf); first|refine aq rfl ?_|fail)
 exact PSub.refl _
end Go.Proofs.YthldjgjpokjliaaDoor
