/- Schedules: lists that are equal, small inputs, the law's need. Conditions: none. -/
import Derived.Test.YthldjgjpokjliaaDoorWd
import Derived.Test.YthldjgjpokjliaaDoorWo
import Derived.Test.YthldjgjpokjliaaDoorWb
import Derived.KernelRfl
set_option linter.unusedSimpArgs false
set_option linter.unusedVariables false
set_option maxRecDepth 20000
set_option maxHeartbeats 4000000
namespace Go.Proofs.YthldjgjpokjliaaDoor
open Go.Avc
def fewIn (S : List Sk) (D : List Nd) : Prop := (∀ n ∈ D, n.rounds.length ≤ 6) ∧ S.length ≤ 4 ∧ D.length ≤ 6
instance (S : List Sk) (D : List Nd) : Decidable (fewIn S D) := inferInstanceAs (Decidable (_ ∧ _))
theorem fewIn_small {S : List Sk} {D : List Nd} (h : fewIn S D) : Small S D := ⟨by have := h.2.1; omega, by have := h.2.2; omega, fun n hn => by have := h.1 n hn; omega⟩
theorem eq_atI {a b : List Int} (hl : a.length = b.length) (h : ∀ j (h1 : j < a.length) (h2 : j < b.length), a[j] = b[j]) : a = b := List.ext_getElem hl h
def ndOf (floor : Int) (rounds : List Int) : Nd := ⟨0, 1024, floor, rounds⟩
attribute [local irreducible] PSub Wp PSpec Le Need Both
theorem sameInts_spec (a b : List Int) (hl : a.length ≤ 1000000) : PSpec Tryd.prog 16 [encIs a, encIs b] (.bool (decide (a = b))) := by
 have la : (a.map fun x => [PV.int x]).length = a.length := List.length_map ..
 have lb : (b.map fun x => [PV.int x]).length = b.length := List.length_map ..
 by_cases hn : a.length = b.length
 case neg =>
   rw [decide_eq_false (fun h => hn (by rw [h]))]
   refine PSpec.of_vc (fun Γ => more8 false Γ.P Γ.fx) (fun Γ => more8_ok) Tryd.func16 rfl Tryd.call16 (by simp) ?_
   rintro ⟨P, N, w0, X, β0, fx, y, hy, pk, df⟩ rfl rfl rfl hoff rfl; change y.on = false at hoff
   repeat' ((try conv => whnf); first|(first|refine k3 ?_ ?_|refine k4 ?_ ?_) <;> intro hb <;> (try rw [lM] at hb) <;> try (exfalso; omega)|fail)
   exact PSub.refl _
 refine PSpec.of_vc (fun Γ => more8 false Γ.P Γ.fx) (fun Γ => more8_ok) Tryd.func16 rfl Tryd.call16 (by simp) ?_
 rintro ⟨P, N, w0, X, β0, fx, y, hy, pk, df⟩ rfl rfl rfl hoff rfl; change y.on = false at hoff
 repeat' ((try conv => whnf); first|(first|refine k3 ?_ ?_|refine k4 ?_ ?_) <;> intro hb <;> (try rw [lM] at hb) <;> try (exfalso; omega)|fail)
 refine Wp.loop (fun k : Nat => ⟨[(0, .pure (encIs a)), (1, .pure (encIs b)), (5, .int k)], [], []⟩) (fun k => k ≤ a.length ∧ ∀ j (h1 : j < a.length) (h2 : j < b.length), j < k → a[j] = b[j]) (fun k => a.length - k) 0 (Le.of ?_ ?_ rfl rfl rfl) ⟨by omega, fun j _ _ h => by omega⟩ ?_
 · (repeat' (first|exact trivial|refine aq ?_ ?_|exact oq|fail))
 · (repeat' (first|exact trivial|fail))
 intro k ⟨hk, ho⟩
 by_cases hk2 : k < a.length
 · have hk3 : k < b.length := by omega
   by_cases he : a[k] = b[k]
   · refine code_sound (more := more8 false _ _) more8_ok FOK.wide _ ?_
     repeat' ((try conv => whnf); first|(first|refine k3 ?_ ?_|refine k4 ?_ ?_) <;> intro hb <;> (try rw [lM] at hb) <;> try (exfalso; omega)|fail)
     refine Wp.draw (more := more8 true _ _) more8_det more8_ok FOK.wide rfl (by decide +kernel) (by conv => lhs; reduce) ?_
     repeat' ((try conv => whnf); first|(first|refine k3 ?_ ?_|refine k4 ?_ ?_) <;> intro hb <;> (try rw [lM] at hb) <;> try (exfalso; omega)|refine s4 nm ?_|refine s5 nm nm ?_|fail)
     refine ⟨k + 1, Le.of (by (repeat' (first|exact trivial|refine aq ?_ ?_|exact oq|fail))) (by (repeat' (first|exact trivial|fail))) rfl rfl rfl, ⟨by omega, fun j h1 h2 hj => ?_⟩, by omega⟩
     rcases Nat.lt_succ_iff_lt_or_eq.1 hj with hj | rfl
     · exact ho j h1 h2 hj
     · exact he
   · rw [decide_eq_false (fun h => he (by subst h; rfl))]
     refine code_sound (more := more8 false _ _) more8_ok FOK.wide _ ?_
     repeat' ((try conv => whnf); first|(first|refine k3 ?_ ?_|refine k4 ?_ ?_) <;> intro hb <;> (try rw [lM] at hb) <;> try (exfalso; omega)|fail)
     refine Wp.draw (more := more8 true _ _) more8_det more8_ok FOK.wide rfl (by decide +kernel) (by conv => lhs; reduce) ?_
     repeat' ((try conv => whnf); first|(first|refine k3 ?_ ?_|refine k4 ?_ ?_) <;> intro hb <;> (try rw [lM] at hb) <;> try (exfalso; omega)|refine s5 nm nm ?_|fail)
     exact PSub.refl _
 · rw [decide_eq_true (eq_atI hn fun j h1 h2 => ho j h1 h2 (by omega))]
   refine code_sound (more := more8 false _ _) more8_ok FOK.wide _ ?_
   repeat' ((try conv => whnf); first|(first|refine k3 ?_ ?_|refine k4 ?_ ?_) <;> intro hb <;> (try rw [lM] at hb) <;> try (exfalso; omega)|fail)
   exact PSub.refl _
theorem few_in_spec (S : List Sk) (D : List Nd) (hS : S.length ≤ 140737488355328) (hD : D.length ≤ 140737488355328) (hn : ∀ n ∈ D, n.rounds.length ≤ 140737488355328) : PSpec Tryd.prog 11 [encSks S, encNds D] (.bool (decide (fewIn S D))) := by
 have lS : (S.map encSk).length = S.length := List.length_map ..
 have lD : (D.map encNd).length = D.length := List.length_map ..
 refine PSpec.of_vc (fun Γ => more8 false Γ.P Γ.fx) (fun Γ => more8_ok) Tryd.func11 rfl Tryd.call11 (by simp) ?_
 rintro ⟨P, N, w0, X, β0, fx, y, hy, pk, df⟩ rfl rfl rfl hoff rfl; change y.on = false at hoff
 skip
 refine Wp.loop (fun i : Nat => ⟨[(0, .pure (encSks S)), (1, .pure (encNds D)), (5, .int i)], [], []⟩) (fun i => i ≤ D.length ∧ ∀ j (hj : j < D.length), j < i → D[j].rounds.length ≤ 6) (fun i => D.length - i) 0
   (Le.of ?_ ?_ rfl rfl rfl) ⟨Nat.zero_le _, fun j _ h => by omega⟩ ?_
 · (repeat' (first|exact trivial|refine aq ?_ ?_|exact oq|fail))
 · (repeat' (first|exact trivial|fail))
 rintro i ⟨hi, ho⟩
 by_cases hi2 : i < D.length
 · have lR : (D[i].rounds.map fun x => [PV.int x]).length = D[i].rounds.length := List.length_map ..
   by_cases h6 : D[i].rounds.length ≤ 6
   · refine code_sound (more := more8 false _ _) more8_ok FOK.wide _ ?_
     repeat' ((try conv => whnf); first|(first|refine k3 ?_ ?_|refine k4 ?_ ?_) <;> intro hb <;> (try rw [lM] at hb) <;> try (exfalso; omega)|refine s4 nm ?_|refine s5 nm nm ?_|fail)
     refine ⟨i + 1, Le.of (by (repeat' (first|exact trivial|refine aq ?_ ?_|exact oq|fail))) (by (repeat' (first|exact trivial|fail))) rfl rfl rfl, ⟨by omega, fun j hj hji => ?_⟩, by omega⟩
     rcases Nat.lt_succ_iff_lt_or_eq.1 hji with h1 | rfl
     · exact ho j hj h1
     · exact h6
   · rw [decide_eq_false fun h => h6 (h.1 _ (List.getElem_mem hi2))]
     refine code_sound (more := more8 false _ _) more8_ok FOK.wide _ ?_
     repeat' ((try conv => whnf); first|(first|refine k3 ?_ ?_|refine k4 ?_ ?_) <;> intro hb <;> (try rw [lM] at hb) <;> try (exfalso; omega)|refine s5 nm nm ?_|fail)
     exact PSub.refl _
 · have e : i = D.length := by omega
   subst e
   have hall : ∀ n ∈ D, n.rounds.length ≤ 6 := fun n hn => by
     obtain ⟨j, hj, rfl⟩ := List.getElem_of_mem hn
     exact ho j hj hj
   by_cases h4 : S.length ≤ 4
   · by_cases h5 : D.length ≤ 6
     · rw [decide_eq_true (show fewIn S D from ⟨hall, h4, h5⟩)]
       refine code_sound (more := more8 false _ _) more8_ok FOK.wide _ ?_
       repeat' ((try conv => whnf); first|(first|refine k3 ?_ ?_|refine k4 ?_ ?_) <;> intro hb <;> (try rw [lM] at hb) <;> try (exfalso; omega)|fail)
       exact PSub.val_bool (by simp; omega)
     · rw [decide_eq_false fun h => h5 h.2.2]
       refine code_sound (more := more8 false _ _) more8_ok FOK.wide _ ?_
       repeat' ((try conv => whnf); first|(first|refine k3 ?_ ?_|refine k4 ?_ ?_) <;> intro hb <;> (try rw [lM] at hb) <;> try (exfalso; omega)|fail)
       exact PSub.val_bool (by simp; omega)
   · rw [decide_eq_false fun h => h4 h.2.1]
     refine code_sound (more := more8 false _ _) more8_ok FOK.wide _ ?_
     repeat' ((try conv => whnf); first|(first|refine k3 ?_ ?_|refine k4 ?_ ?_) <;> intro hb <;> (try rw [lM] at hb) <;> try (exfalso; omega)|fail)
     exact PSub.refl _
theorem need_spec (fl : Int) (l : List Int) : PSpec Tryd.prog 23 [.int fl, encIs l] (.agg (encNd (ndOf fl l))) := by
 refine PSpec.of_vc (fun Γ => more8 false Γ.P Γ.fx) (fun Γ => more8_ok) Tryd.func23 rfl Tryd.call23 (by simp) ?_
 rintro ⟨P, N, w0, X, β0, fx, y, hy, pk, df⟩ rfl rfl rfl hoff rfl; change y.on = false at hoff
 repeat' ((try conv => whnf); first|refine aq rfl ?_|fail)
 exact PSub.refl _
end Go.Proofs.YthldjgjpokjliaaDoor
/- Schedules: the chapter's examples. Conditions: none. -/
namespace Go.Proofs.YthldjgjpokjliaaDoor
open Go.Avc
def smS : List Sk := [⟨1, 1, 5⟩, ⟨2, 2, 3⟩]
def smA : List Nd := [ndOf 4 [1, 2], ndOf 5 [1]]
def smB : List Nd := [ndOf 0 [1, 2], ndOf 5 [1], ndOf 0 [2]]
def smC : List Nd := [ndOf 0 []]
def smD : List Nd := [ndOf 0 [1, 2], ndOf 4 [1], ndOf 0 [2], ndOf 5 [1, 2]]
def smE : List Nd := [ndOf 0 [1]]
def smF : List Nd := [ndOf 5 [1]]
theorem e1 : lgE [] [] = .tup [encIs [], .int 0] := by kernel_rfl
theorem e2 : lgE smS smA = .tup [encIs [1], .int 0] := by kernel_rfl
theorem e3 : lgE smS smB = .tup [encIs [2, 1, 2], .int 0] := by kernel_rfl
theorem e4 : hallE [] smC = .tup [encIs [0], .bool true, .int 0] := by kernel_rfl
theorem e5 : hallE smS smD = .tup [encIs [1, 3], .bool true, .int 0] := by kernel_rfl
theorem e6 : hallE smS smE = .tup [encIs [], .bool false, .int 0] := by kernel_rfl
theorem e7 : decE smS smF ⟨9, 20, 0, [1, 2]⟩ 4 = .tup [.int 2, .int 5, .int 0] := by kernel_rfl
theorem e8 : decE [] [] (ndOf 0 []) 0 = .tup [.int 0, .int 0, .int 321] := by kernel_rfl
theorem e9 : decE smS [] ⟨9, 20, 0, [1]⟩ 20 = .tup [.int 0, .int 0, .int 320] := by kernel_rfl
theorem e10 : chkE [⟨3, 0, 0⟩, ⟨3, 0, 0⟩] [] = 320 := by kernel_rfl
attribute [local irreducible] PSub Wp PSpec Le Need Both
attribute [local irreducible] lgE hallE decE chkE
theorem sane_spec : PSpec Tryd.prog 10 [] (.bool true) := by
 have p1 := Longest_spec [] [] (fewIn_small (by decide))
 have p2 := Longest_spec smS smA (fewIn_small (by decide))
 have p3 := Longest_spec smS smB (fewIn_small (by decide))
 have p4 := Hall_spec [] smC (fewIn_small (by decide)) (by decide)
 have p5 := Hall_spec smS smD (fewIn_small (by decide)) (by decide)
 have p6 := Hall_spec smS smE (fewIn_small (by decide)) (by decide)
 have p7 := Decide_spec smS smF ⟨9, 20, 0, [1, 2]⟩ 4 (fewIn_small (by decide)) (by decide)
 have p8 := Decide_spec [] [] (ndOf 0 []) 0 (fewIn_small (by decide)) (by decide)
 have p9 := Decide_spec smS [] ⟨9, 20, 0, [1]⟩ 20 (fewIn_small (by decide)) (by decide)
 have p10 := check_spec [⟨3, 0, 0⟩, ⟨3, 0, 0⟩] [] (by decide) (by decide) (fun n h => by cases h)
 have n0 := need_spec 0 []
 have s1 := sameInts_spec [1] [1] (by decide)
 have s2 := sameInts_spec [2, 1, 2] [2, 1, 2] (by decide)
 have s3 := sameInts_spec [0] [0] (by decide)
 have s4 := sameInts_spec [1, 3] [1, 3] (by decide)
 rw [e1] at p1; rw [e2] at p2; rw [e3] at p3; rw [e4] at p4; rw [e5] at p5; rw [e6] at p6; rw [e7] at p7; rw [e8] at p8; rw [e9] at p9; rw [e10] at p10
 rw [decide_eq_true rfl] at s1 s2 s3 s4
 replace p1 := PSpec.args (args := [.val (.slice none 0 0), .val (.slice none 0 0)]) p1 ⟨PSub.nil 3, PSub.nil 4, trivial⟩
 replace p4 := PSpec.args (args := [.val (.slice none 0 0), encNds smC]) p4 ⟨PSub.nil 3, PSub.refl _, trivial⟩
 replace p8 := PSpec.args (args := [.val (.slice none 0 0), .val (.slice none 0 0), .agg (encNd (ndOf 0 [])), .int 0]) p8 ⟨PSub.nil 3, PSub.nil 4, PSub.refl _, PSub.refl _, trivial⟩
 replace p9 := PSpec.args (args := [encSks smS, .val (.slice none 0 0), .agg (encNd ⟨9, 20, 0, [1]⟩), .int 20]) p9 ⟨PSub.refl _, PSub.nil 4, PSub.refl _, PSub.refl _, trivial⟩
 replace p10 := PSpec.args (args := [encSks [⟨3, 0, 0⟩, ⟨3, 0, 0⟩], .val (.slice none 0 0)]) p10 ⟨PSub.refl _, PSub.nil 4, trivial⟩
 replace n0 := PSpec.args (args := [.int 0, .val (.slice none 0 0)]) n0 ⟨PSub.refl _, PSub.nil 1, trivial⟩
 refine PSpec.of_wp Tryd.func10 rfl Tryd.call10 (by simp) ?_
 rintro ⟨P, N, w0, X, β0, fx, y, hy, pk, df⟩ rfl rfl rfl hoff rfl; change y.on = false at hoff
 refine code_soundR (fun id => Nat.ble 3 id && Nat.ble id 11) (more := more8 false _ _) more8_ok FOK.wide _ ?_
 repeat' ((try conv => whnf); first|refine aq bd ?_|fail)
 refine .inl ⟨_, p1, ?_⟩
 repeat' ((try conv => whnf); first|refine aq rfl ?_|fail)
 refine Wp.le (Le.of (s' := ⟨[(1, .lsl 28 0 2), (2, .pure (encIs [])), (3, .int 0)], [(28, some (.row 3 (smS.map encSk)))], [28]⟩) (by (repeat' (first|exact trivial|refine aq ?_ ?_|exact oq|fail))) (by (repeat' (first|exact trivial|exact rfl|refine aq ?_ ?_|fail))) rfl rfl rfl) ?_
 refine code_sound (more := more8 false _ _) more8_ok FOK.wide _ ?_
 repeat' ((try conv => whnf); first|refine aq bd ?_|fail)
 refine .inl ⟨_, need_spec 4 [1, 2], ?_⟩
 repeat' ((try conv => whnf); first|refine aq rfl ?_|refine aq bd ?_|fail)
 refine .inl ⟨_, need_spec 5 [1], ?_⟩
 repeat' ((try conv => whnf); first|refine aq rfl ?_|refine aq bd ?_|fail)
 refine .inl ⟨_, p2, ?_⟩
 repeat' ((try conv => whnf); first|refine aq rfl ?_|fail)
 refine Wp.le (Le.of (s' := ⟨[(1, .pure (encSks smS)), (2, .pure (encIs [])), (3, .int 0), (4, .pure (encIs [1])), (5, .int 0)], [], []⟩) (by (repeat' (first|exact trivial|refine aq ?_ ?_|exact oq|fail))) (by (repeat' (first|exact trivial|fail))) rfl rfl rfl) ?_
 refine code_sound (more := more8 false _ _) more8_ok FOK.wide _ ?_
 repeat' ((try conv => whnf); first|refine aq bd ?_|fail)
 refine .inl ⟨_, need_spec 0 [1, 2], ?_⟩
 repeat' ((try conv => whnf); first|refine aq rfl ?_|refine aq bd ?_|fail)
 refine .inl ⟨_, need_spec 5 [1], ?_⟩
 repeat' ((try conv => whnf); first|refine aq rfl ?_|refine aq bd ?_|fail)
 refine .inl ⟨_, need_spec 0 [2], ?_⟩
 repeat' ((try conv => whnf); first|refine aq rfl ?_|refine aq bd ?_|fail)
 refine .inl ⟨_, p3, ?_⟩
 repeat' ((try conv => whnf); first|refine aq rfl ?_|fail)
 refine Wp.le (Le.of (s' := ⟨[(1, .pure (encSks smS)), (2, .pure (encIs [])), (3, .int 0), (4, .pure (encIs [1])), (5, .int 0), (6, .pure (encIs [2, 1, 2])), (7, .int 0)], [], []⟩) (by (repeat' (first|exact trivial|refine aq ?_ ?_|exact oq|fail))) (by (repeat' (first|exact trivial|fail))) rfl rfl rfl) ?_
 refine code_sound (more := more8 false _ _) more8_ok FOK.wide _ ?_
 skip
 refine .inl ⟨_, n0, ?_⟩
 repeat' ((try conv => whnf); first|refine aq rfl ?_|refine aq bd ?_|fail)
 refine .inl ⟨_, p4, ?_⟩
 repeat' ((try conv => whnf); first|refine aq rfl ?_|fail)
 refine Wp.le (Le.of (s' := ⟨[(1, .pure (encSks smS)), (2, .pure (encIs [])), (3, .int 0), (4, .pure (encIs [1])), (5, .int 0), (6, .pure (encIs [2, 1, 2])), (7, .int 0), (8, .pure (encIs [0])), (9, .bool true), (10, .int 0)], [], []⟩) (by (repeat' (first|exact trivial|refine aq ?_ ?_|exact oq|fail))) (by (repeat' (first|exact trivial|fail))) rfl rfl rfl) ?_
 refine code_sound (more := more8 false _ _) more8_ok FOK.wide _ ?_
 repeat' ((try conv => whnf); first|refine aq bd ?_|fail)
 refine .inl ⟨_, need_spec 0 [1, 2], ?_⟩
 repeat' ((try conv => whnf); first|refine aq rfl ?_|refine aq bd ?_|fail)
 refine .inl ⟨_, need_spec 4 [1], ?_⟩
 repeat' ((try conv => whnf); first|refine aq rfl ?_|refine aq bd ?_|fail)
 refine .inl ⟨_, need_spec 0 [2], ?_⟩
 repeat' ((try conv => whnf); first|refine aq rfl ?_|refine aq bd ?_|fail)
 refine .inl ⟨_, need_spec 5 [1, 2], ?_⟩
 repeat' ((try conv => whnf); first|refine aq rfl ?_|refine aq bd ?_|fail)
 refine .inl ⟨_, p5, ?_⟩
 repeat' ((try conv => whnf); first|refine aq rfl ?_|fail)
 refine Wp.le (Le.of (s' := ⟨[(1, .pure (encSks smS)), (2, .pure (encIs [])), (3, .int 0), (4, .pure (encIs [1])), (5, .int 0), (6, .pure (encIs [2, 1, 2])), (7, .int 0), (8, .pure (encIs [0])), (9, .bool true), (10, .int 0), (11, .pure (encIs [1, 3])), (12, .bool true), (13, .int 0)], [], []⟩) (by (repeat' (first|exact trivial|refine aq ?_ ?_|exact oq|fail))) (by (repeat' (first|exact trivial|fail))) rfl rfl rfl) ?_
 refine code_sound (more := more8 false _ _) more8_ok FOK.wide _ ?_
 repeat' ((try conv => whnf); first|refine aq bd ?_|fail)
 refine .inl ⟨_, need_spec 0 [1], ?_⟩
 repeat' ((try conv => whnf); first|refine aq rfl ?_|refine aq bd ?_|fail)
 refine .inl ⟨_, p6, ?_⟩
 repeat' ((try conv => whnf); first|refine aq rfl ?_|fail)
 refine Wp.le (Le.of (s' := ⟨[(1, .pure (encSks smS)), (2, .pure (encIs [])), (3, .int 0), (4, .pure (encIs [1])), (5, .int 0), (6, .pure (encIs [2, 1, 2])), (7, .int 0), (8, .pure (encIs [0])), (9, .bool true), (10, .int 0), (11, .pure (encIs [1, 3])), (12, .bool true), (13, .int 0), (15, .bool false), (16, .int 0)], [], []⟩) (by (repeat' (first|exact trivial|refine aq ?_ ?_|exact oq|fail))) (by (repeat' (first|exact trivial|fail))) rfl rfl rfl) ?_
 refine code_sound (more := more8 false _ _) more8_ok FOK.wide _ ?_
 repeat' ((try conv => whnf); first|refine aq bd ?_|fail)
 refine .inl ⟨_, need_spec 5 [1], ?_⟩
 repeat' ((try conv => whnf); first|refine aq rfl ?_|refine aq bd ?_|fail)
 refine .inl ⟨_, p7, ?_⟩
 skip
 refine Wp.le (Le.of (s' := ⟨[(1, .pure (encSks smS)), (2, .pure (encIs [])), (3, .int 0), (4, .pure (encIs [1])), (5, .int 0), (6, .pure (encIs [2, 1, 2])), (7, .int 0), (8, .pure (encIs [0])), (9, .bool true), (10, .int 0), (11, .pure (encIs [1, 3])), (12, .bool true), (13, .int 0), (15, .bool false), (16, .int 0), (17, .int 2), (18, .int 5), (19, .int 0)], [], []⟩) (by (repeat' (first|exact trivial|refine aq ?_ ?_|exact oq|fail))) (by (repeat' (first|exact trivial|fail))) rfl rfl rfl) ?_
 refine code_sound (more := more8 false _ _) more8_ok FOK.wide _ ?_
 skip
 refine .inl ⟨_, n0, ?_⟩
 repeat' ((try conv => whnf); first|refine aq rfl ?_|fail)
 refine .inl ⟨_, p8, ?_⟩
 skip
 refine Wp.le (Le.of (s' := ⟨[(1, .pure (encSks smS)), (2, .pure (encIs [])), (3, .int 0), (4, .pure (encIs [1])), (5, .int 0), (6, .pure (encIs [2, 1, 2])), (7, .int 0), (8, .pure (encIs [0])), (9, .bool true), (10, .int 0), (11, .pure (encIs [1, 3])), (12, .bool true), (13, .int 0), (15, .bool false), (16, .int 0), (17, .int 2), (18, .int 5), (19, .int 0), (22, .int 321)], [], []⟩) (by (repeat' (first|exact trivial|refine aq ?_ ?_|exact oq|fail))) (by (repeat' (first|exact trivial|fail))) rfl rfl rfl) ?_
 refine code_sound (more := more8 false _ _) more8_ok FOK.wide _ ?_
 repeat' ((try conv => whnf); first|refine aq bd ?_|fail)
 refine .inl ⟨_, p9, ?_⟩
 skip
 refine Wp.le (Le.of (s' := ⟨[(1, .pure (encSks smS)), (2, .pure (encIs [])), (3, .int 0), (4, .pure (encIs [1])), (5, .int 0), (6, .pure (encIs [2, 1, 2])), (7, .int 0), (8, .pure (encIs [0])), (9, .bool true), (10, .int 0), (11, .pure (encIs [1, 3])), (12, .bool true), (13, .int 0), (15, .bool false), (16, .int 0), (17, .int 2), (18, .int 5), (19, .int 0), (22, .int 321), (25, .int 320)], [], []⟩) (by (repeat' (first|exact trivial|refine aq ?_ ?_|exact oq|fail))) (by (repeat' (first|exact trivial|fail))) rfl rfl rfl) ?_
 refine code_sound (more := more8 false _ _) more8_ok FOK.wide _ ?_
 repeat' ((try conv => whnf); first|refine aq bd ?_|fail)
 refine .inl ⟨_, p10, ?_⟩
 repeat' ((try conv => whnf); first|refine aq bd ?_|fail)
 refine .inl ⟨_, s1, ?_⟩
 repeat' ((try conv => whnf); first|refine aq bd ?_|fail)
 refine .inl ⟨_, s2, ?_⟩
 repeat' ((try conv => whnf); first|refine aq bd ?_|fail)
 refine .inl ⟨_, s3, ?_⟩
 repeat' ((try conv => whnf); first|refine aq bd ?_|fail)
 refine .inl ⟨_, s4, ?_⟩
 skip
 exact PSub.refl _
end Go.Proofs.YthldjgjpokjliaaDoor
