/- Versions: the laws VersionsForwardSpec and VersionsWaySpec. Conditions: none. -/
import Derived.Test.YtihbkbioafdhjaaWd
import Derived.Test.YtihbkbioafdhjaaWo
set_option linter.unusedSimpArgs false
set_option linter.unusedVariables false
set_option maxRecDepth 20000
set_option maxHeartbeats 4000000
namespace Go.Proofs.Ytihbkbioafdhjaa
open Go.Avc
theorem perfR_lens {s : Src} {v : Cv} (h : twoP s v) (c : Cl) : (perfR s v c).1.fields.length ≤ c.fields.length ∧ (perfR s v c).1.values.length ≤ c.fields.length := by
 by_cases hv : validP s v.a c
 · rw [perfR_yes h hv]
   have : (cvL v c).length ≤ c.fields.length := by
     rw [cvL, insAll_len, List.length_map, clL, List.length_zip]; omega
   simpa [clOf] using this
 · rw [perfR_no hv]; simp
theorem fwdR_len {s : Src} (n : Int) (back : Bool) (c : Cl) : (fwdR s n back c).1.fields.length ≤ c.fields.length ∧ (fwdR s n back c).1.values.length ≤ c.fields.length := by
 unfold fwdR
 split
 · rename_i ha
   split
   · rename_i hn
     have hk : n.toNat < s.converts.length := by omega
     rw [getD_at hk]
     exact perfR_lens (dir_two (allTwo_at ha hk) back) c
   · simp [zeroCl]
 · simp [zeroCl]
theorem alS_lens {s : Src} (ha : allTwo s = true) {e : Int} (he : okE s e) {r : Cl × Int} {B : Nat} (h : r.1.fields.length ≤ B ∧ r.1.values.length ≤ B) : (alS s r e).1.fields.length ≤ B ∧ (alS s r e).1.values.length ≤ B := by
 by_cases h0 : r.2 = 0
 · obtain ⟨n, rfl⟩ : ∃ n : Nat, e = n := ⟨e.toNat, by unfold okE at he; omega⟩
   have hn : n / 2 < s.converts.length := by unfold okE at he; omega
   rw [alS_at h0 hn]
   have := perfR_lens (dir_two (allTwo_at ha hn) (n % 2 == 1)) r.1
   omega
 · rw [show alS s r e = r from if_neg h0]; exact h
theorem alF_lens {s : Src} (ha : allTwo s = true) {B : Nat} : ∀ {l : List Int} {r : Cl × Int}, (∀ e ∈ l, okE s e) → (r.1.fields.length ≤ B ∧ r.1.values.length ≤ B) → (l.foldl (alS s) r).1.fields.length ≤ B ∧ (l.foldl (alS s) r).1.values.length ≤ B
 | [], r, _, h => h
 | e :: l, r, ho, h => by
   rw [List.foldl_cons]
   exact alF_lens ha (fun x hx => ho x (List.mem_cons_of_mem _ hx)) (alS_lens ha (ho e List.mem_cons_self) h)
theorem alR_len {s : Src} (l : List Int) (c : Cl) {B : Nat} (h : c.fields.length ≤ B ∧ c.values.length ≤ B) : (alR s l c).1.fields.length ≤ B ∧ (alR s l c).1.values.length ≤ B := by
 unfold alR
 split
 · rename_i ha
   split
   · rename_i ho
     unfold alT
     rw [List.take_length]
     exact alF_lens ha (fun e he => of_decide_eq_true (List.all_eq_true.1 ho e he)) h
   · simp [zeroCl]
 · simp [zeroCl]
theorem wayR_len {s : Src} (hw : s.few) (a b : Int) : (wayR s a b).1.length ≤ 5 := by
 unfold wayR
 split
 · split
   · cases hr : refW s.converts a b s.schemas.length with
     | none => simp [wayO]
     | some w =>
       have := (refW_some hr).2
       have := hw.ns
       simp [wayO]; omega
   · simp
 · simp
theorem same_self (x : Cl) (h1 : x.fields.length ≤ 1000000) (h2 : x.values.length ≤ 1000000) : PSpec Try.prog 15 [.agg (encCl x), .agg (encCl x)] (.bool true) := by
 have := same_spec x x h1 h2
 rwa [decide_eq_true (show sameP x x from ⟨rfl, rfl, rfl⟩)] at this
theorem sameInts_self (x : List Int) (h1 : x.length ≤ 1000000) : PSpec Try.prog 22 [encIs x, encIs x] (.bool true) := by
 have := sameInts_spec x x h1
 rwa [decide_eq_true rfl] at this
attribute [local irreducible] PSub Wp PSpec Le Need Both
theorem forward_law (s : Src) (hs : s.sz) (hg : s.rg) (n : Int) (c : Cl) (h1 : c.fields.length ≤ 140737488355328) (h2 : c.values.length ≤ 140737488355328) : PSpec Try.prog 3 [.agg (encSrc s), .int n, .agg (encCl c)] (.bool true) := by
 have qw := few_spec s hs c h1 h2
 by_cases hfw : fewP s c
 case neg =>
   rw [decide_eq_false hfw] at qw
   refine PSpec.of_vc (fun Γ => more8 false Γ.P Γ.fx) (fun Γ => more8_ok) Try.func3 rfl Try.call3 (by simp) ?_
   rintro ⟨P, N, w0, X, β0, fx, y, hy, pk, df⟩ rfl rfl rfl hoff rfl; change y.on = false at hoff
   skip
   refine .inl ⟨_, sane_spec, ?_⟩
   skip
   refine .inl ⟨_, qw, ?_⟩
   skip
   exact PSub.refl _
 rw [decide_eq_true hfw] at qw
 have hw := fewP_few hfw
 obtain ⟨_, _, _, _, hcf, hcv⟩ := hfw
 have k1 := check_spec s hs hg
 have k2 := rcheck_spec s hs
 refine PSpec.of_vc (fun Γ => more8 false Γ.P Γ.fx) (fun Γ => more8_ok) Try.func3 rfl Try.call3 (by simp) ?_
 rintro ⟨P, N, w0, X, β0, fx, y, hy, pk, df⟩ rfl rfl rfl hoff rfl; change y.on = false at hoff
 skip
 refine .inl ⟨_, sane_spec, ?_⟩
 skip
 refine .inl ⟨_, qw, ?_⟩
 repeat' ((try conv => whnf); first|refine aq bd ?_|fail)
 refine Wp.loop (fun i : Nat => ⟨[(3, .loc 3 0 0), (5, .loc 5 0 0), (7, .lsl 24 0 3), (8, .int i)], [(3, some (.box (pures (encSrc s)))), (5, some (.box (pures (encCl c)))), (24, some (.row 1 [[.int n], [.int 0], [.int 1]]))], [3, 5, 24]⟩) (fun i => i ≤ 3) (fun i => 3 - i) 0
   (Le.of ?_ ?_ rfl rfl rfl) (by omega) ?_
 · (repeat' (first|exact trivial|refine aq ?_ ?_|exact oq|fail))
 · (repeat' (first|exact trivial|exact rfl|refine aq ?_ ?_|refine Exists.intro _ (aq rfl ?_)|exact oq|fail))
 intro i hi
 have hi3 : i = 0 ∨ i = 1 ∨ i = 2 ∨ i = 3 := by omega
 rcases hi3 with rfl | rfl | rfl | rfl
 · have f1 := Forward_spec s hs hg hw n c (by omega)
   have f2 := rForward_spec s hs hw n c (by omega)
   have f3 := Back_spec s hs hg hw n c (by omega)
   have f4 := rBack_spec s hs hw n c (by omega)
   have g1 := fwdR_len (s := s) n false c
   have g2 := fwdR_len (s := s) n true c
   obtain ⟨x, hx⟩ : ∃ x, x = fwdR s n false c := ⟨_, rfl⟩
   obtain ⟨z, hz⟩ : ∃ z, z = fwdR s n true c := ⟨_, rfl⟩
   rw [← hx] at f1 f2 g1
   rw [← hz] at f3 f4 g2
   have s1 := same_self x.1 (by omega) (by omega)
   have s2 := same_self z.1 (by omega) (by omega)
   refine code_sound (more := more8 false _ _) more8_ok FOK.wide _ ?_
   skip
   refine Wp.draw (more := more8 true _ _) more8_det more8_ok FOK.wide rfl (by decide +kernel) (by conv => lhs; reduce) ?_
   repeat' ((try conv => whnf); first|refine aq bd ?_|fail)
   refine ⟨_, _, rfl, rfl, ?_⟩
   skip
   refine ⟨_, f1, ?_⟩
   repeat' ((try conv => whnf); first|refine aq rfl ?_|fail)
   refine Wp.draw (more := more8 true _ _) more8_det more8_ok FOK.wide rfl (by decide +kernel) (by conv => lhs; reduce) ?_
   repeat' ((try conv => whnf); first|refine aq bd ?_|fail)
   refine ⟨_, _, rfl, rfl, ?_⟩
   skip
   refine ⟨_, f2, ?_⟩
   repeat' ((try conv => whnf); first|refine aq rfl ?_|fail)
   refine Wp.draw (more := more8 true _ _) more8_det more8_ok FOK.wide rfl (by decide +kernel) (by conv => lhs; reduce) ?_
   repeat' ((try conv => whnf); first|refine aq bd ?_|fail)
   refine ⟨_, _, rfl, rfl, ?_⟩
   skip
   refine ⟨_, f3, ?_⟩
   repeat' ((try conv => whnf); first|refine aq rfl ?_|fail)
   refine Wp.draw (more := more8 true _ _) more8_det more8_ok FOK.wide rfl (by decide +kernel) (by conv => lhs; reduce) ?_
   repeat' ((try conv => whnf); first|refine aq bd ?_|fail)
   refine ⟨_, _, rfl, rfl, ?_⟩
   skip
   refine ⟨_, f4, ?_⟩
   repeat' ((try conv => whnf); first|refine aq rfl ?_|fail)
   refine .inl ⟨_, s1, ?_⟩
   repeat' ((try conv => whnf); first|(first|refine k3 ?_ ?_|refine k4 ?_ ?_) <;> intro hb <;> (try rw [lM] at hb) <;> try (exfalso; omega)|fail)
   refine .inl ⟨_, s2, ?_⟩
   repeat' ((try conv => whnf); first|(first|refine k3 ?_ ?_|refine k4 ?_ ?_) <;> intro hb <;> (try rw [lM] at hb) <;> try (exfalso; omega)|refine s4 nm ?_|fail)
   exact ⟨1, Le.of (by (repeat' (first|exact trivial|refine aq ?_ ?_|exact oq|fail))) (by (repeat' (first|exact trivial|exact rfl|refine aq ?_ ?_|refine Exists.intro _ (aq rfl ?_)|exact oq|fail))) rfl rfl rfl, by omega, by omega⟩
 · have f1 := Forward_spec s hs hg hw 0 c (by omega)
   have f2 := rForward_spec s hs hw 0 c (by omega)
   have f3 := Back_spec s hs hg hw 0 c (by omega)
   have f4 := rBack_spec s hs hw 0 c (by omega)
   have g1 := fwdR_len (s := s) 0 false c
   have g2 := fwdR_len (s := s) 0 true c
   obtain ⟨x, hx⟩ : ∃ x, x = fwdR s 0 false c := ⟨_, rfl⟩
   obtain ⟨z, hz⟩ : ∃ z, z = fwdR s 0 true c := ⟨_, rfl⟩
   rw [← hx] at f1 f2 g1
   rw [← hz] at f3 f4 g2
   have s1 := same_self x.1 (by omega) (by omega)
   have s2 := same_self z.1 (by omega) (by omega)
   refine code_sound (more := more8 false _ _) more8_ok FOK.wide _ ?_
   skip
   refine Wp.draw (more := more8 true _ _) more8_det more8_ok FOK.wide rfl (by decide +kernel) (by conv => lhs; reduce) ?_
   repeat' ((try conv => whnf); first|refine aq bd ?_|fail)
   refine ⟨_, _, rfl, rfl, ?_⟩
   skip
   refine ⟨_, f1, ?_⟩
   repeat' ((try conv => whnf); first|refine aq rfl ?_|fail)
   refine Wp.draw (more := more8 true _ _) more8_det more8_ok FOK.wide rfl (by decide +kernel) (by conv => lhs; reduce) ?_
   repeat' ((try conv => whnf); first|refine aq bd ?_|fail)
   refine ⟨_, _, rfl, rfl, ?_⟩
   skip
   refine ⟨_, f2, ?_⟩
   repeat' ((try conv => whnf); first|refine aq rfl ?_|fail)
   refine Wp.draw (more := more8 true _ _) more8_det more8_ok FOK.wide rfl (by decide +kernel) (by conv => lhs; reduce) ?_
   repeat' ((try conv => whnf); first|refine aq bd ?_|fail)
   refine ⟨_, _, rfl, rfl, ?_⟩
   skip
   refine ⟨_, f3, ?_⟩
   repeat' ((try conv => whnf); first|refine aq rfl ?_|fail)
   refine Wp.draw (more := more8 true _ _) more8_det more8_ok FOK.wide rfl (by decide +kernel) (by conv => lhs; reduce) ?_
   repeat' ((try conv => whnf); first|refine aq bd ?_|fail)
   refine ⟨_, _, rfl, rfl, ?_⟩
   skip
   refine ⟨_, f4, ?_⟩
   repeat' ((try conv => whnf); first|refine aq rfl ?_|fail)
   refine .inl ⟨_, s1, ?_⟩
   repeat' ((try conv => whnf); first|(first|refine k3 ?_ ?_|refine k4 ?_ ?_) <;> intro hb <;> (try rw [lM] at hb) <;> try (exfalso; omega)|fail)
   refine .inl ⟨_, s2, ?_⟩
   repeat' ((try conv => whnf); first|(first|refine k3 ?_ ?_|refine k4 ?_ ?_) <;> intro hb <;> (try rw [lM] at hb) <;> try (exfalso; omega)|refine s4 nm ?_|fail)
   exact ⟨2, Le.of (by (repeat' (first|exact trivial|refine aq ?_ ?_|exact oq|fail))) (by (repeat' (first|exact trivial|exact rfl|refine aq ?_ ?_|refine Exists.intro _ (aq rfl ?_)|exact oq|fail))) rfl rfl rfl, by omega, by omega⟩
 · have f1 := Forward_spec s hs hg hw 1 c (by omega)
   have f2 := rForward_spec s hs hw 1 c (by omega)
   have f3 := Back_spec s hs hg hw 1 c (by omega)
   have f4 := rBack_spec s hs hw 1 c (by omega)
   have g1 := fwdR_len (s := s) 1 false c
   have g2 := fwdR_len (s := s) 1 true c
   obtain ⟨x, hx⟩ : ∃ x, x = fwdR s 1 false c := ⟨_, rfl⟩
   obtain ⟨z, hz⟩ : ∃ z, z = fwdR s 1 true c := ⟨_, rfl⟩
   rw [← hx] at f1 f2 g1
   rw [← hz] at f3 f4 g2
   have s1 := same_self x.1 (by omega) (by omega)
   have s2 := same_self z.1 (by omega) (by omega)
   refine code_sound (more := more8 false _ _) more8_ok FOK.wide _ ?_
   skip
   refine Wp.draw (more := more8 true _ _) more8_det more8_ok FOK.wide rfl (by decide +kernel) (by conv => lhs; reduce) ?_
   repeat' ((try conv => whnf); first|refine aq bd ?_|fail)
   refine ⟨_, _, rfl, rfl, ?_⟩
   skip
   refine ⟨_, f1, ?_⟩
   repeat' ((try conv => whnf); first|refine aq rfl ?_|fail)
   refine Wp.draw (more := more8 true _ _) more8_det more8_ok FOK.wide rfl (by decide +kernel) (by conv => lhs; reduce) ?_
   repeat' ((try conv => whnf); first|refine aq bd ?_|fail)
   refine ⟨_, _, rfl, rfl, ?_⟩
   skip
   refine ⟨_, f2, ?_⟩
   repeat' ((try conv => whnf); first|refine aq rfl ?_|fail)
   refine Wp.draw (more := more8 true _ _) more8_det more8_ok FOK.wide rfl (by decide +kernel) (by conv => lhs; reduce) ?_
   repeat' ((try conv => whnf); first|refine aq bd ?_|fail)
   refine ⟨_, _, rfl, rfl, ?_⟩
   skip
   refine ⟨_, f3, ?_⟩
   repeat' ((try conv => whnf); first|refine aq rfl ?_|fail)
   refine Wp.draw (more := more8 true _ _) more8_det more8_ok FOK.wide rfl (by decide +kernel) (by conv => lhs; reduce) ?_
   repeat' ((try conv => whnf); first|refine aq bd ?_|fail)
   refine ⟨_, _, rfl, rfl, ?_⟩
   skip
   refine ⟨_, f4, ?_⟩
   repeat' ((try conv => whnf); first|refine aq rfl ?_|fail)
   refine .inl ⟨_, s1, ?_⟩
   repeat' ((try conv => whnf); first|(first|refine k3 ?_ ?_|refine k4 ?_ ?_) <;> intro hb <;> (try rw [lM] at hb) <;> try (exfalso; omega)|fail)
   refine .inl ⟨_, s2, ?_⟩
   repeat' ((try conv => whnf); first|(first|refine k3 ?_ ?_|refine k4 ?_ ?_) <;> intro hb <;> (try rw [lM] at hb) <;> try (exfalso; omega)|refine s4 nm ?_|fail)
   exact ⟨3, Le.of (by (repeat' (first|exact trivial|refine aq ?_ ?_|exact oq|fail))) (by (repeat' (first|exact trivial|exact rfl|refine aq ?_ ?_|refine Exists.intro _ (aq rfl ?_)|exact oq|fail))) rfl rfl rfl, by omega, by omega⟩
 · refine code_sound (more := more8 false _ _) more8_ok FOK.wide _ ?_
   skip
   refine Wp.draw (more := more8 true _ _) more8_det more8_ok FOK.wide rfl (by decide +kernel) (by conv => lhs; reduce) ?_
   skip
   refine ⟨_, k1, ?_⟩
   skip
   refine ⟨_, k2, ?_⟩
   skip
   exact sub_bool (by simp)
theorem way_law (s : Src) (hs : s.sz) (hg : s.rg) (a b : Int) (l : List Int) (hl : l.length ≤ 140737488355328) (c : Cl) (h1 : c.fields.length ≤ 140737488355328) (h2 : c.values.length ≤ 140737488355328) : PSpec Try.prog 4 [.agg (encSrc s), .int a, .int b, encIs l, .agg (encCl c)] (.bool true) := by
 have qw := few_spec s hs c h1 h2
 have lL : (l.map fun x => [PV.int x]).length = l.length := List.length_map ..
 by_cases hfw : fewP s c
 case neg =>
   rw [decide_eq_false hfw] at qw
   refine PSpec.of_vc (fun Γ => more8 false Γ.P Γ.fx) (fun Γ => more8_ok) Try.func4 rfl Try.call4 (by simp) ?_
   rintro ⟨P, N, w0, X, β0, fx, y, hy, pk, df⟩ rfl rfl rfl hoff rfl; change y.on = false at hoff
   skip
   refine .inl ⟨_, sane_spec, ?_⟩
   skip
   refine .inl ⟨_, qw, ?_⟩
   skip
   exact PSub.refl _
 rw [decide_eq_true hfw] at qw
 have hw := fewP_few hfw
 obtain ⟨_, _, _, _, hcf, hcv⟩ := hfw
 by_cases hl2 : l.length ≤ 12
 case neg =>
   refine PSpec.of_vc (fun Γ => more8 false Γ.P Γ.fx) (fun Γ => more8_ok) Try.func4 rfl Try.call4 (by simp) ?_
   rintro ⟨P, N, w0, X, β0, fx, y, hy, pk, df⟩ rfl rfl rfl hoff rfl; change y.on = false at hoff
   skip
   refine .inl ⟨_, sane_spec, ?_⟩
   skip
   refine .inl ⟨_, qw, ?_⟩
   repeat' ((try conv => whnf); first|(first|refine k3 ?_ ?_|refine k4 ?_ ?_) <;> intro hb <;> (try rw [lM] at hb) <;> try (exfalso; omega)|fail)
   exact PSub.refl _
 have f1 := way_spec s hs hg hw a b
 have f2 := rWay_spec s hs hw a b
 have f3 := along_spec s hs hg hw l (by omega) c (by omega) (by omega)
 have f4 := rAlong_spec s hs hw l (by omega) c (by omega)
 have g1 := wayR_len hw a b
 have g2 := alR_len (s := s) l c (B := 20) ⟨hcf, hcv⟩
 obtain ⟨x, hx⟩ : ∃ x, x = wayR s a b := ⟨_, rfl⟩
 obtain ⟨z, hz⟩ : ∃ z, z = alR s l c := ⟨_, rfl⟩
 rw [← hx] at f1 f2 g1
 rw [← hz] at f3 f4 g2
 have s1 := sameInts_self x.1 (by omega)
 have s2 := same_self z.1 (by omega) (by omega)
 refine PSpec.of_vc (fun Γ => more8 false Γ.P Γ.fx) (fun Γ => more8_ok) Try.func4 rfl Try.call4 (by simp) ?_
 rintro ⟨P, N, w0, X, β0, fx, y, hy, pk, df⟩ rfl rfl rfl hoff rfl; change y.on = false at hoff
 skip
 refine .inl ⟨_, sane_spec, ?_⟩
 skip
 refine .inl ⟨_, qw, ?_⟩
 repeat' ((try conv => whnf); first|(first|refine k3 ?_ ?_|refine k4 ?_ ?_) <;> intro hb <;> (try rw [lM] at hb) <;> try (exfalso; omega)|fail)
 refine .inl ⟨_, f1, ?_⟩
 repeat' ((try conv => whnf); first|refine aq rfl ?_|fail)
 refine .inl ⟨_, f2, ?_⟩
 repeat' ((try conv => whnf); first|refine aq rfl ?_|fail)
 refine .inl ⟨_, f3, ?_⟩
 repeat' ((try conv => whnf); first|refine aq rfl ?_|fail)
 refine .inl ⟨_, f4, ?_⟩
 repeat' ((try conv => whnf); first|refine aq rfl ?_|fail)
 refine .inl ⟨_, s1, ?_⟩
 repeat' ((try conv => whnf); first|refine k2 (fun hb => ?_) fun hb => ?_|(first|refine k3 ?_ ?_|refine k4 ?_ ?_) <;> intro hb <;> (try rw [lM] at hb) <;> try (exfalso; omega)|fail)
 · refine .inl ⟨_, s2, ?_⟩
   skip
   · exact sub_bool (by simp)
   all_goals exact absurd rfl (by assumption)
 all_goals exact absurd rfl (by assumption)
end Go.Proofs.Ytihbkbioafdhjaa
/- Versions: the law VersionsBack. Conditions: none. -/
namespace Go.Proofs.Ytihbkbioafdhjaa
open Go.Avc
theorem fwdR_ok {s : Src} {n : Int} {back : Bool} {c : Cl} (h : (fwdR s n back c).2 = 0) : allTwo s = true ∧ ∃ (k : Nat) (hk : k < s.converts.length), n = k ∧ fwdR s n back c = perfR s (dirC back s.converts[k]) c ∧ validP s (dirC back s.converts[k]).a c := by
 by_cases ha : allTwo s = true
 case neg => rw [fwdR_no ha] at h; cases h
 by_cases hn : 0 ≤ n ∧ n < s.converts.length
 case neg => rw [fwdR_arg ha hn] at h; cases h
 obtain ⟨k, rfl⟩ : ∃ k : Nat, n = k := ⟨n.toNat, by omega⟩
 have hk : k < s.converts.length := by omega
 refine ⟨ha, k, hk, rfl, fwdR_at ha hk .., ?_⟩
 rw [fwdR_at ha hk] at h
 refine Classical.byContradiction fun hv => ?_
 rw [perfR_no hv] at h
 cases h
theorem fwdR_bad {s : Src} {n : Int} {back : Bool} {c : Cl} (h : (fwdR s n back c).2 ≠ 0) : (fwdR s n back c).1 = zeroCl := by
 unfold fwdR at h ⊢
 split
 · split
   · rename_i ha hn
     rw [if_pos ha, if_pos hn] at h
     rw [perfR_bad h]
   · rfl
 · rfl
theorem fwdR_back {s : Src} {n : Int} {back : Bool} {c : Cl} (h : (fwdR s n back c).2 = 0) : fwdR s n (!back) (fwdR s n back c).1 = (c, 0) := by
 obtain ⟨ha, k, hk, rfl, he, hv⟩ := fwdR_ok h
 rw [he, fwdR_at ha hk]
 have ht := allTwo_at ha hk
 cases back with
 | false => exact perfR_back ht hv
 | true =>
   have := perfR_back (v := turnC s.converts[k]) (twoP_turn ht) hv
   rw [turn_turn] at this
   exact this
theorem same_zero : PSpec Try.prog 15 [.agg (encCl zeroCl), .agg [.int 0, .val (.slice none 0 0), .val (.slice none 0 0)]] (.bool true) :=
 PSpec.args (same_self zeroCl (by decide) (by decide)) ⟨PSub.refl _, PSub.agg ⟨PSub.refl _, PSub.nil 1, PSub.nil 1, trivial⟩, trivial⟩
attribute [local irreducible] PSub Wp PSpec Le Need Both
theorem back_law (s : Src) (hs : s.sz) (hg : s.rg) (n : Int) (c : Cl) (h1 : c.fields.length ≤ 140737488355328) (h2 : c.values.length ≤ 140737488355328) : PSpec Try.prog 5 [.agg (encSrc s), .int n, .agg (encCl c)] (.bool true) := by
 have qw := few_spec s hs c h1 h2
 by_cases hfw : fewP s c
 case neg =>
   rw [decide_eq_false hfw] at qw
   refine PSpec.of_vc (fun Γ => more8 false Γ.P Γ.fx) (fun Γ => more8_ok) Try.func5 rfl Try.call5 (by simp) ?_
   rintro ⟨P, N, w0, X, β0, fx, y, hy, pk, df⟩ rfl rfl rfl hoff rfl; change y.on = false at hoff
   skip
   refine .inl ⟨_, sane_spec, ?_⟩
   skip
   refine .inl ⟨_, qw, ?_⟩
   skip
   exact PSub.refl _
 rw [decide_eq_true hfw] at qw
 have hw := fewP_few hfw
 obtain ⟨_, _, _, _, hcf, hcv⟩ := hfw
 have f1 := Forward_spec s hs hg hw n c (by omega)
 have g1 := Back_spec s hs hg hw n c (by omega)
 have l1 := fwdR_len (s := s) n false c
 have l2 := fwdR_len (s := s) n true c
 have f2 := Back_spec s hs hg hw n (fwdR s n false c).1 (by omega)
 have g2 := Forward_spec s hs hg hw n (fwdR s n true c).1 (by omega)
 have sc := same_self c (by omega) (by omega)
 have sz := same_zero
 have p2 : (fwdR s n false c).2 = 0 → fwdR s n true (fwdR s n false c).1 = (c, 0) := fwdR_back
 have q2 : (fwdR s n true c).2 = 0 → fwdR s n false (fwdR s n true c).1 = (c, 0) := fwdR_back
 have p3 : (fwdR s n false c).2 ≠ 0 → (fwdR s n false c).1 = zeroCl := fwdR_bad
 have q3 : (fwdR s n true c).2 ≠ 0 → (fwdR s n true c).1 = zeroCl := fwdR_bad
 obtain ⟨x, hx⟩ : ∃ x, x = fwdR s n false c := ⟨_, rfl⟩
 obtain ⟨z, hz⟩ : ∃ z, z = fwdR s n true c := ⟨_, rfl⟩
 rw [← hx] at f1 f2 p2 p3
 rw [← hz] at g1 g2 q2 q3
 obtain ⟨x1, x2⟩ := x
 obtain ⟨z1, z2⟩ := z
 dsimp only at f2 g2 p2 p3 q2 q3
 by_cases hx0 : x2 = 0
 · rw [p2 hx0] at f2
   subst hx0
   by_cases hz0 : z2 = 0
   · rw [q2 hz0] at g2
     subst hz0
     refine PSpec.of_vc (fun Γ => more8 false Γ.P Γ.fx) (fun Γ => more8_ok) Try.func5 rfl Try.call5 (by simp) ?_
     rintro ⟨P, N, w0, X, β0, fx, y, hy, pk, df⟩ rfl rfl rfl hoff rfl; change y.on = false at hoff
     skip
     refine .inl ⟨_, sane_spec, ?_⟩
     skip
     refine .inl ⟨_, qw, ?_⟩
     skip
     refine .inl ⟨_, f1, ?_⟩
     repeat' ((try conv => whnf); first|refine aq rfl ?_|fail)
     refine .inl ⟨_, f2, ?_⟩
     repeat' ((try conv => whnf); first|refine aq rfl ?_|fail)
     refine .inl ⟨_, sc, ?_⟩
     skip
     refine .inl ⟨_, g1, ?_⟩
     repeat' ((try conv => whnf); first|refine aq rfl ?_|fail)
     refine .inl ⟨_, g2, ?_⟩
     repeat' ((try conv => whnf); first|refine aq rfl ?_|fail)
     refine .inl ⟨_, sc, ?_⟩
     skip
     exact PSub.refl _
   · have e := q3 hz0
     subst e
     refine PSpec.of_vc (fun Γ => more8 false Γ.P Γ.fx) (fun Γ => more8_ok) Try.func5 rfl Try.call5 (by simp) ?_
     rintro ⟨P, N, w0, X, β0, fx, y, hy, pk, df⟩ rfl rfl rfl hoff rfl; change y.on = false at hoff
     skip
     refine .inl ⟨_, sane_spec, ?_⟩
     skip
     refine .inl ⟨_, qw, ?_⟩
     skip
     refine .inl ⟨_, f1, ?_⟩
     repeat' ((try conv => whnf); first|refine aq rfl ?_|fail)
     refine .inl ⟨_, f2, ?_⟩
     repeat' ((try conv => whnf); first|refine aq rfl ?_|fail)
     refine .inl ⟨_, sc, ?_⟩
     skip
     refine .inl ⟨_, g1, ?_⟩
     repeat' ((try conv => whnf); first|(first|refine k3 ?_ ?_|refine k4 ?_ ?_) <;> intro hb <;> (try rw [lM] at hb) <;> try (exfalso; omega)|refine aq rfl ?_|fail)
     refine .inl ⟨_, sz, ?_⟩
     skip
     exact PSub.refl _
 · have e := p3 hx0
   subst e
   by_cases hz0 : z2 = 0
   · rw [q2 hz0] at g2
     subst hz0
     refine PSpec.of_vc (fun Γ => more8 false Γ.P Γ.fx) (fun Γ => more8_ok) Try.func5 rfl Try.call5 (by simp) ?_
     rintro ⟨P, N, w0, X, β0, fx, y, hy, pk, df⟩ rfl rfl rfl hoff rfl; change y.on = false at hoff
     skip
     refine .inl ⟨_, sane_spec, ?_⟩
     skip
     refine .inl ⟨_, qw, ?_⟩
     skip
     refine .inl ⟨_, f1, ?_⟩
     repeat' ((try conv => whnf); first|(first|refine k3 ?_ ?_|refine k4 ?_ ?_) <;> intro hb <;> (try rw [lM] at hb) <;> try (exfalso; omega)|refine aq rfl ?_|fail)
     refine .inl ⟨_, sz, ?_⟩
     skip
     refine .inl ⟨_, g1, ?_⟩
     repeat' ((try conv => whnf); first|refine aq rfl ?_|fail)
     refine .inl ⟨_, g2, ?_⟩
     repeat' ((try conv => whnf); first|refine aq rfl ?_|fail)
     refine .inl ⟨_, sc, ?_⟩
     skip
     exact PSub.refl _
   · have e := q3 hz0
     subst e
     refine PSpec.of_vc (fun Γ => more8 false Γ.P Γ.fx) (fun Γ => more8_ok) Try.func5 rfl Try.call5 (by simp) ?_
     rintro ⟨P, N, w0, X, β0, fx, y, hy, pk, df⟩ rfl rfl rfl hoff rfl; change y.on = false at hoff
     skip
     refine .inl ⟨_, sane_spec, ?_⟩
     skip
     refine .inl ⟨_, qw, ?_⟩
     skip
     refine .inl ⟨_, f1, ?_⟩
     repeat' ((try conv => whnf); first|(first|refine k3 ?_ ?_|refine k4 ?_ ?_) <;> intro hb <;> (try rw [lM] at hb) <;> try (exfalso; omega)|refine aq rfl ?_|fail)
     refine .inl ⟨_, sz, ?_⟩
     skip
     refine .inl ⟨_, g1, ?_⟩
     repeat' ((try conv => whnf); first|(first|refine k3 ?_ ?_|refine k4 ?_ ?_) <;> intro hb <;> (try rw [lM] at hb) <;> try (exfalso; omega)|refine aq rfl ?_|fail)
     refine .inl ⟨_, sz, ?_⟩
     skip
     exact PSub.refl _
end Go.Proofs.Ytihbkbioafdhjaa
