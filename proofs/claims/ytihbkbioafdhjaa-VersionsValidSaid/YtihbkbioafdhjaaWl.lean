/- Versions: a conversion is performed. Conditions: none. -/
import Derived.Test.YtihbkbioafdhjaaWd
import Derived.Test.YtihbkbioafdhjaaWk
set_option linter.unusedSimpArgs false
set_option linter.unusedVariables false
set_option maxRecDepth 20000
set_option maxHeartbeats 4000000
namespace Go.Proofs.Ytihbkbioafdhjaa
open Go.Avc
def pvM (back : Bool) (mv : List Mv) (f v : Int) : List (Int × Int) := (mv.filter fun m => decide ((mvd back m v).1 = f)).map fun m => (mvd back m v).2
def pvI (back : Bool) (mv : List Mv) (c : Cl) : Nat → List (Int × Int)
 | 0 => []
 | i + 1 => pvI back mv c i ++ (if c.fields.getD i 0 = 0 then [(0, c.values.getD i 0)] else pvM back mv (c.fields.getD i 0) (c.values.getD i 0))
theorem pvM_len (back : Bool) (mv : List Mv) (f v : Int) : (pvM back mv f v).length ≤ mv.length := by unfold pvM; rw [List.length_map]; exact List.length_filter_le _ _
theorem pvI_len (back : Bool) (mv : List Mv) (c : Cl) (h : mv.length ≤ 100) : ∀ i, (pvI back mv c i).length ≤ i * 101
 | 0 => by simp [pvI]
 | i + 1 => by
   have h1 := pvI_len back mv c h i
   have h3 := pvM_len back mv (c.fields.getD i 0) (c.values.getD i 0)
   simp only [pvI, List.length_append]
   split
   · simp; omega
   · omega
theorem pvM_next {back : Bool} {mv : List Mv} {k : Nat} (h : k < mv.length) (f v : Int) : pvM back (mv.take (k + 1)) f v = if (mvd back mv[k] v).1 = f then pvM back (mv.take k) f v ++ [(mvd back mv[k] v).2] else pvM back (mv.take k) f v := by
 unfold pvM
 rw [List.take_succ_eq_append_getElem h, List.filter_append]
 by_cases e : (mvd back mv[k] v).1 = f <;> simp [e]
def perfP (s : Src) (v : Cv) (back : Bool) (c : Cl) (d : List (Int × Int)) : Cl × Int := if validP s (cvFrom back v) c then (clOf (cvTo back v) d, 0) else (⟨0, [], []⟩, 150)
attribute [local irreducible] PSub Wp PSpec Le Need Both
theorem perform_true (s : Src) (hs : s.sz) (v : Cv) (c : Cl) (hf : c.fields.length ≤ 100) (hm : v.moves.length ≤ 100) (hsh : ∀ m ∈ v.moves, -1000000000 ≤ m.shift ∧ m.shift ≤ 1000000000)
   (d : List (Int × Int)) (hu : validP s (cvFrom true v) c → ∀ r : List (Int × Int), r.Perm (pvI true v.moves c c.fields.length) → r.Pairwise (fun x y => ¬ ltP y x) → r = d) (hdl : validP s (cvFrom true v) c → d.length = (pvI true v.moves c c.fields.length).length) :
   PSpec Try.prog 34 [.agg (encSrc s), .agg (encCv v), .bool true, .agg (encCl c)] (encCE (perfP s v true c d)) := by
 have q := valid_spec s hs (cvFrom true v) c (by omega)
 have qd := directed_spec v true
 have lF : (c.fields.map fun x => [PV.int x]).length = c.fields.length := List.length_map ..
 have lM : (v.moves.map encMv).length = v.moves.length := List.length_map ..
 by_cases hv : validP s (cvFrom true v) c
 case neg =>
   rw [decide_eq_false hv] at q
   rw [show perfP s v true c d = (⟨0, [], []⟩, 150) from if_neg hv]
   refine PSpec.of_vc (fun Γ => more8 false Γ.P Γ.fx) (fun Γ => more8_ok) Try.func34 rfl Try.call34 (by simp) ?_
   rintro ⟨P, N, w0, X, β0, fx, y, hy, pk, df⟩ rfl rfl rfl hoff rfl; change y.on = false at hoff
   skip
   refine .inl ⟨_, qd, ?_⟩
   repeat' ((try conv => whnf); first|refine aq rfl ?_|fail)
   refine .inl ⟨_, q, ?_⟩
   repeat' ((try conv => whnf); first|refine aq rfl ?_|fail)
   exact PSub.tup ⟨PSub.agg ⟨PSub.refl _, PSub.nil 1, PSub.nil 1, trivial⟩, PSub.refl _, trivial⟩
 rw [decide_eq_true hv] at q
 rw [show perfP s v true c d = (clOf (cvTo true v) d, 0) from if_pos hv]
 have hu := hu hv
 have hdl := hdl hv
 obtain ⟨v1, v2, v3⟩ := hv
 refine PSpec.of_vc (fun Γ => more8 false Γ.P Γ.fx) (fun Γ => more8_ok) Try.func34 rfl Try.call34 (by simp) ?_
 rintro ⟨P, N, w0, X, β0, fx, y, hy, pk, df⟩ rfl rfl rfl hoff rfl; change y.on = false at hoff
 skip
 refine .inl ⟨_, qd, ?_⟩
 repeat' ((try conv => whnf); first|refine aq rfl ?_|fail)
 refine .inl ⟨_, q, ?_⟩
 skip
 refine Wp.loop (fun i : Nat => ⟨[(5, .loc 5 0 0), (7, .loc 7 0 0), (8, .loc 8 0 0), (10, .loc 10 0 0), (11, .lsl 300 0 (pvI true v.moves c i).length), (33, .pure (encIs c.fields)), (34, .int c.fields.length), (35, .int i)],
   [(5, some (.box (pures (encCv v)))), (7, some (.box (pures (encCl c)))), (8, some (.box [.int 0, .pure (.val (.slice none 0 0)), .pure (.val (.slice none 0 0))])), (10, some (.box (pures [.int (cvFrom true v), .int (cvTo true v), .fn (dirFn true) []]))), (300, some (.row 2 ((pvI true v.moves c i).map encP2)))], [5, 7, 8, 10, 300]⟩) (fun i => i ≤ c.fields.length) (fun i => c.fields.length - i) 0
   (Le.trans (Le.virt (k := 300) (sz := 2) rfl rfl (by omega)) (Le.of ?_ ?_ rfl rfl rfl)) (by omega) ?_
 · (repeat' (first|exact trivial|refine aq ?_ ?_|exact oq|exact l1 bd|exact l6 rfl|fail))
 · (repeat' (first|exact trivial|exact rfl|refine aq ?_ ?_|refine Exists.intro _ (aq rfl ?_)|exact oq|fail))
 intro i hi
 have hb := pvI_len true v.moves c hm i
 have lp : ((pvI true v.moves c i).map encP2).length = (pvI true v.moves c i).length := List.length_map ..
 by_cases hi2 : i < c.fields.length
 · have hv2 : i < c.values.length := by omega
   have g1 := getD_at hi2 (0 : Int)
   have g2 := getD_at hv2 (0 : Int)
   have hvs := (v3 i hi2).1
   rw [g1, g2] at hvs
   obtain ⟨w1, w2⟩ := valOK_small hvs
   by_cases h0 : c.fields[i] = 0
   · have hnx : pvI true v.moves c (i + 1) = pvI true v.moves c i ++ [(0, c.values[i])] := by rw [pvI, g1, g2, if_pos h0]
     refine code_sound (more := more8 false _ _) more8_ok FOK.wide _ ?_
     repeat' ((try conv => whnf); first|(first|refine k3 ?_ ?_|refine k4 ?_ ?_) <;> intro hb <;> (try rw [lM] at hb) <;> try (exfalso; omega)|refine s4 nm ?_|refine s5 nm nm ?_|refine aq bd ?_|fail)
     refine ⟨i + 1, Le.map [(300, 51)] ?_ ?_ rfl rfl rfl rfl, by omega, by omega⟩
     · rw [hnx]
       (repeat' (first|exact trivial|refine aq ?_ ?_|exact oq|exact SubA.lsl ls|fail))
       all_goals first
         | (refine SubA.lsl ?_; focus (simp; done))
         | (refine rowEq ?_; focus (simp [encP2]; done))
     · rw [hnx]
       (repeat' (first|exact trivial|refine aq ?_ ?_|refine Exists.intro _ (aq rfl ?_)|exact oq|fail))
       all_goals first
         | (refine SubA.lsl ?_; focus (simp; done))
         | (refine rowEq ?_; focus (simp [encP2]; done))
   · have hnx : pvI true v.moves c (i + 1) = pvI true v.moves c i ++ pvM true v.moves c.fields[i] c.values[i] := by rw [pvI, g1, g2, if_neg h0]
     refine code_sound (more := more8 false _ _) more8_ok FOK.wide _ ?_
     repeat' ((try conv => whnf); first|(first|refine k3 ?_ ?_|refine k4 ?_ ?_) <;> intro hb <;> (try rw [lM] at hb) <;> try (exfalso; omega)|refine s5 nm nm ?_|fail)
     refine Wp.loop (fun k : Nat => ⟨[(5, .loc 5 0 0), (7, .loc 7 0 0), (8, .loc 8 0 0), (10, .loc 10 0 0), (11, .lsl 300 0 (pvI true v.moves c i ++ pvM true (v.moves.take k) c.fields[i] c.values[i]).length), (13, .int c.fields[i]), (14, .int c.values[i]), (33, .pure (encIs c.fields)), (34, .int c.fields.length), (35, .int i), (53, .pure (.sl 5 (v.moves.map encMv))), (54, .int v.moves.length), (55, .int k)],
       [(5, some (.box (pures (encCv v)))), (7, some (.box (pures (encCl c)))), (8, some (.box [.int 0, .pure (.val (.slice none 0 0)), .pure (.val (.slice none 0 0))])), (10, some (.box (pures [.int (cvFrom true v), .int (cvTo true v), .fn (dirFn true) []]))), (300, some (.row 2 ((pvI true v.moves c i ++ pvM true (v.moves.take k) c.fields[i] c.values[i]).map encP2)))], [5, 7, 8, 10, 300]⟩) (fun k => k ≤ v.moves.length) (fun k => v.moves.length - k) 0
       (Le.of ?_ ?_ rfl rfl rfl) (by omega) ?_
     · rw [show pvM true (v.moves.take 0) c.fields[i] c.values[i] = [] from rfl, List.append_nil]
       (repeat' (first|exact trivial|refine aq ?_ ?_|exact oq|exact l1 bd|fail))
     · rw [show pvM true (v.moves.take 0) c.fields[i] c.values[i] = [] from rfl, List.append_nil]
       (repeat' (first|exact trivial|exact rfl|refine aq ?_ ?_|refine Exists.intro _ (aq rfl ?_)|exact oq|fail))
     intro k hk
     by_cases hk2 : k < v.moves.length
     · have hmv := hsh _ (List.getElem_mem hk2)
       have hn := pvM_next (back := true) hk2 c.fields[i] c.values[i]
       have hpm := pvM_len true (v.moves.take k) c.fields[i] c.values[i]
       rw [List.length_take] at hpm
       have lq : ((pvI true v.moves c i ++ pvM true (v.moves.take k) c.fields[i] c.values[i]).map encP2).length = (pvI true v.moves c i).length + (pvM true (v.moves.take k) c.fields[i] c.values[i]).length := by rw [List.length_map, List.length_append]
       have qm : PSpec Try.prog (dirFn true) [.agg (encMv v.moves[k]), .int c.values[i]] (enc3 (mvd true v.moves[k] c.values[i])) := by
         exact directed1_spec _ _ (by omega) (by omega) (by omega) (by omega)
       obtain ⟨x, hx⟩ : ∃ x, x = mvd true v.moves[k] c.values[i] := ⟨_, rfl⟩
       rw [← hx] at qm hn
       by_cases hma : x.1 = c.fields[i]
       · rw [if_pos hma] at hn
         refine code_sound (more := more8 false _ _) more8_ok FOK.wide _ ?_
         repeat' ((try conv => whnf); first|(first|refine k3 ?_ ?_|refine k4 ?_ ?_) <;> intro hb <;> (try rw [lM] at hb) <;> try (exfalso; omega)|refine aq rfl ?_|refine s5 nm nm ?_|fail)
         refine .inl ⟨_, qm, ?_⟩
         repeat' ((try conv => whnf); first|(first|refine k3 ?_ ?_|refine k4 ?_ ?_) <;> intro hb <;> (try rw [lM] at hb) <;> try (exfalso; omega)|refine s4 nm ?_|refine aq bd ?_|fail)
         refine ⟨k + 1, Le.map [(300, 76)] ?_ ?_ rfl rfl rfl rfl, by omega, by omega⟩
         · rw [hn, ← List.append_assoc]
           (repeat' (first|exact trivial|refine aq ?_ ?_|exact oq|exact SubA.lsl ls|fail))
           all_goals first
             | (refine SubA.lsl ?_; focus (simp; done))
             | (refine rowEq ?_; focus (simp [encP2]; done))
         · rw [hn, ← List.append_assoc]
           (repeat' (first|exact trivial|refine aq ?_ ?_|refine Exists.intro _ (aq rfl ?_)|exact oq|fail))
           all_goals first
             | (refine SubA.lsl ?_; focus (simp; done))
             | (refine rowEq ?_; focus (simp [encP2]; done))
       · rw [if_neg hma] at hn
         refine code_sound (more := more8 false _ _) more8_ok FOK.wide _ ?_
         repeat' ((try conv => whnf); first|(first|refine k3 ?_ ?_|refine k4 ?_ ?_) <;> intro hb <;> (try rw [lM] at hb) <;> try (exfalso; omega)|refine aq rfl ?_|refine s5 nm nm ?_|fail)
         refine .inl ⟨_, qm, ?_⟩
         repeat' ((try conv => whnf); first|(first|refine k3 ?_ ?_|refine k4 ?_ ?_) <;> intro hb <;> (try rw [lM] at hb) <;> try (exfalso; omega)|refine s4 nm ?_|fail)
         refine ⟨k + 1, Le.of ?_ ?_ rfl rfl rfl, by omega, by omega⟩
         · rw [hn]
           (repeat' (first|exact trivial|refine aq ?_ ?_|exact oq|fail))
         · rw [hn]
           (repeat' (first|exact trivial|exact rfl|refine aq ?_ ?_|refine Exists.intro _ (aq rfl ?_)|exact oq|fail))
     · have e : k = v.moves.length := by omega
       subst e
       refine code_sound (more := more8 false _ _) more8_ok FOK.wide _ ?_
       repeat' ((try conv => whnf); first|(first|refine k3 ?_ ?_|refine k4 ?_ ?_) <;> intro hb <;> (try rw [lM] at hb) <;> try (exfalso; omega)|refine s4 nm ?_|fail)
       refine ⟨i + 1, Le.of ?_ ?_ rfl rfl rfl, by omega, by omega⟩
       · rw [hnx, List.take_length]
         (repeat' (first|exact trivial|refine aq ?_ ?_|exact oq|fail))
       · rw [hnx, List.take_length]
         (repeat' (first|exact trivial|exact rfl|refine aq ?_ ?_|refine Exists.intro _ (aq rfl ?_)|exact oq|fail))
 · have e : i = c.fields.length := by omega
   subst e
   by_cases hn0 : pvI true v.moves c c.fields.length = []
   · have hd0 : d = [] := List.eq_nil_of_length_eq_zero (by rw [hdl, hn0]; rfl)
     rw [hn0, hd0]
     refine code_sound (more := more8 false _ _) more8_ok FOK.wide _ ?_
     repeat' ((try conv => whnf); first|(first|refine k3 ?_ ?_|refine k4 ?_ ?_) <;> intro hb <;> (try rw [lM] at hb) <;> try (exfalso; omega)|fail)
     refine .inl ⟨_, sortP_none, ?_⟩
     repeat' ((try conv => whnf); first|refine aq rfl ?_|fail)
     refine Wp.loop (fun _ : Nat => ⟨[(8, .loc 8 0 0), (84, .lsl 300 0 0), (85, .int 0), (86, .int 0)], [(8, some (.box [.int (cvTo true v), .pure (.val (.slice none 0 0)), .pure (.val (.slice none 0 0))])), (300, some (.row 2 []))], [8, 300]⟩) (fun _ => True) (fun _ => 0) 0 (Le.of ?_ ?_ rfl rfl rfl) trivial ?_
     · (repeat' (first|exact trivial|refine aq ?_ ?_|exact oq|fail))
     · (repeat' (first|exact trivial|exact rfl|refine aq ?_ ?_|refine Exists.intro _ (aq rfl ?_)|exact oq|fail))
     intro i _
     refine code_sound (more := more8 false _ _) more8_ok FOK.wide _ ?_
     repeat' ((try conv => whnf); first|refine aq rfl ?_|fail)
     exact PSub.tup ⟨PSub.agg ⟨PSub.refl _, PSub.nil 1, PSub.nil 1, trivial⟩, PSub.refl _, trivial⟩
   · refine code_sound (more := more8 false _ _) more8_ok FOK.wide _ ?_
     repeat' ((try conv => whnf); first|(first|refine k3 ?_ ?_|refine k4 ?_ ?_) <;> intro hb <;> (try rw [lM] at hb) <;> try (exfalso; omega)|fail)
     refine .inr ⟨[(100, 300)], [.lsl 100 0 (pvI true v.moves c c.fields.length).length, .fn 49 []], [(100, some (.row 2 ((pvI true v.moves c c.fields.length).map encP2)))], [100], [100], 0, _, sortP_spec _ d (List.length_pos_iff.2 hn0) (by omega) hu, ⟨Or.inl rfl, Or.inl rfl, trivial⟩, ⟨rowEq rfl, trivial⟩, ?_⟩
     repeat' ((try conv => whnf); first|refine aq rfl ?_|fail)
     rw [← hdl]
     refine Wp.loop (fun i : Nat => ⟨[(8, .loc 8 0 0), (84, .lsl 300 0 d.length), (85, .int d.length), (86, .int i)],
       [(8, some (.box [.int (cvTo true v), .lsl 301 0 i, .lsl 302 0 i])), (300, some (.row 2 (d.map encP2))), (301, some (.row 1 (ints ((d.take i).map (·.1))))), (302, some (.row 1 (ints ((d.take i).map (·.2)))))], [8, 300, 301, 302]⟩) (fun i => i ≤ d.length) (fun i => d.length - i) 0
       (Le.trans (Le.virt (k := 301) (sz := 1) rfl rfl (by omega)) (Le.trans (Le.virt (k := 302) (sz := 1) rfl rfl (by omega)) (Le.of ?_ ?_ rfl rfl rfl))) (by omega) ?_
     · (repeat' (first|exact trivial|refine aq ?_ ?_|exact oq|fail))
     · (repeat' (first|exact trivial|exact rfl|refine aq ?_ ?_|refine Exists.intro _ (aq rfl ?_)|exact oq|exact l6 rfl|fail))
     intro i hi
     have ld : (d.map encP2).length = d.length := List.length_map ..
     have lo1 : (ints ((d.take i).map (·.1))).length = i := by simp [ints]; omega
     have lo2 : (ints ((d.take i).map (·.2))).length = i := by simp [ints]; omega
     by_cases hi3 : i < d.length
     · refine code_sound (more := more8 false _ _) more8_ok FOK.wide _ ?_
       repeat' ((try conv => whnf); first|(first|refine k3 ?_ ?_|refine k4 ?_ ?_) <;> intro hb <;> (try rw [lM] at hb) <;> try (exfalso; omega)|refine aq rfl ?_|refine s4 nm ?_|refine aq bd ?_|refine ⟨_, _, getMapN nm, rfl, ?_⟩|refine .inl ⟨_, getMapN nm, rfl, rfl, ?_⟩|refine .inr ⟨rfl, rfl, rfl, ?_⟩|fail)
       have ht1 : ints ((d.take (i + 1)).map (·.1)) = ints ((d.take i).map (·.1)) ++ [[.int d[i].1]] := by rw [List.take_succ_eq_append_getElem hi3, List.map_append]; unfold ints; rw [List.map_append]; rfl
       have ht2 : ints ((d.take (i + 1)).map (·.2)) = ints ((d.take i).map (·.2)) ++ [[.int d[i].2]] := by rw [List.take_succ_eq_append_getElem hi3, List.map_append]; unfold ints; rw [List.map_append]; rfl
       refine ⟨i + 1, Le.map [(301, 95), (302, 102)] ?_ ?_ rfl rfl rfl rfl, by omega, by omega⟩
       · rw [ht1, ht2]
         (repeat' (first|exact trivial|refine aq ?_ ?_|exact oq|fail))
         all_goals first
           | (refine SubA.lsl ?_; focus (simp [ints]; omega; done))
           | (refine rowEq ?_; focus (simp [ints]; done))
       · rw [ht1, ht2]
         (repeat' (first|exact trivial|exact rfl|refine aq ?_ ?_|refine Exists.intro _ (aq rfl ?_)|exact oq|exact rowEq rs|fail))
         all_goals first
           | (refine SubA.lsl ?_; focus (simp [ints]; omega; done))
           | (refine rowEq ?_; focus (simp [ints]; done))
     · have e : i = d.length := by omega
       subst e
       rw [List.take_length]
       refine code_sound (more := more8 false _ _) more8_ok FOK.wide _ ?_
       repeat' ((try conv => whnf); first|(first|refine k3 ?_ ?_|refine k4 ?_ ?_) <;> intro hb <;> (try rw [lM] at hb) <;> try (exfalso; omega)|refine aq rfl ?_|fail)
       refine PSub.of_eq ?_
       simp [encCE, encCl, clOf, encIs, ints, List.take_of_length_le]
theorem perform_false (s : Src) (hs : s.sz) (v : Cv) (c : Cl) (hf : c.fields.length ≤ 100) (hm : v.moves.length ≤ 100) (hsh : ∀ m ∈ v.moves, -1000000000 ≤ m.shift ∧ m.shift ≤ 1000000000)
   (d : List (Int × Int)) (hu : validP s (cvFrom false v) c → ∀ r : List (Int × Int), r.Perm (pvI false v.moves c c.fields.length) → r.Pairwise (fun x y => ¬ ltP y x) → r = d) (hdl : validP s (cvFrom false v) c → d.length = (pvI false v.moves c c.fields.length).length) :
   PSpec Try.prog 34 [.agg (encSrc s), .agg (encCv v), .bool false, .agg (encCl c)] (encCE (perfP s v false c d)) := by
 have q := valid_spec s hs (cvFrom false v) c (by omega)
 have qd := directed_spec v false
 have lF : (c.fields.map fun x => [PV.int x]).length = c.fields.length := List.length_map ..
 have lM : (v.moves.map encMv).length = v.moves.length := List.length_map ..
 by_cases hv : validP s (cvFrom false v) c
 case neg =>
   rw [decide_eq_false hv] at q
   rw [show perfP s v false c d = (⟨0, [], []⟩, 150) from if_neg hv]
   refine PSpec.of_vc (fun Γ => more8 false Γ.P Γ.fx) (fun Γ => more8_ok) Try.func34 rfl Try.call34 (by simp) ?_
   rintro ⟨P, N, w0, X, β0, fx, y, hy, pk, df⟩ rfl rfl rfl hoff rfl; change y.on = false at hoff
   skip
   refine .inl ⟨_, qd, ?_⟩
   repeat' ((try conv => whnf); first|refine aq rfl ?_|fail)
   refine .inl ⟨_, q, ?_⟩
   repeat' ((try conv => whnf); first|refine aq rfl ?_|fail)
   exact PSub.tup ⟨PSub.agg ⟨PSub.refl _, PSub.nil 1, PSub.nil 1, trivial⟩, PSub.refl _, trivial⟩
 rw [decide_eq_true hv] at q
 rw [show perfP s v false c d = (clOf (cvTo false v) d, 0) from if_pos hv]
 have hu := hu hv
 have hdl := hdl hv
 obtain ⟨v1, v2, v3⟩ := hv
 refine PSpec.of_vc (fun Γ => more8 false Γ.P Γ.fx) (fun Γ => more8_ok) Try.func34 rfl Try.call34 (by simp) ?_
 rintro ⟨P, N, w0, X, β0, fx, y, hy, pk, df⟩ rfl rfl rfl hoff rfl; change y.on = false at hoff
 skip
 refine .inl ⟨_, qd, ?_⟩
 repeat' ((try conv => whnf); first|refine aq rfl ?_|fail)
 refine .inl ⟨_, q, ?_⟩
 skip
 refine Wp.loop (fun i : Nat => ⟨[(5, .loc 5 0 0), (7, .loc 7 0 0), (8, .loc 8 0 0), (10, .loc 10 0 0), (11, .lsl 300 0 (pvI false v.moves c i).length), (33, .pure (encIs c.fields)), (34, .int c.fields.length), (35, .int i)],
   [(5, some (.box (pures (encCv v)))), (7, some (.box (pures (encCl c)))), (8, some (.box [.int 0, .pure (.val (.slice none 0 0)), .pure (.val (.slice none 0 0))])), (10, some (.box (pures [.int (cvFrom false v), .int (cvTo false v), .fn (dirFn false) []]))), (300, some (.row 2 ((pvI false v.moves c i).map encP2)))], [5, 7, 8, 10, 300]⟩) (fun i => i ≤ c.fields.length) (fun i => c.fields.length - i) 0
   (Le.trans (Le.virt (k := 300) (sz := 2) rfl rfl (by omega)) (Le.of ?_ ?_ rfl rfl rfl)) (by omega) ?_
 · (repeat' (first|exact trivial|refine aq ?_ ?_|exact oq|exact l1 bd|exact l6 rfl|fail))
 · (repeat' (first|exact trivial|exact rfl|refine aq ?_ ?_|refine Exists.intro _ (aq rfl ?_)|exact oq|fail))
 intro i hi
 have hb := pvI_len false v.moves c hm i
 have lp : ((pvI false v.moves c i).map encP2).length = (pvI false v.moves c i).length := List.length_map ..
 by_cases hi2 : i < c.fields.length
 · have hv2 : i < c.values.length := by omega
   have g1 := getD_at hi2 (0 : Int)
   have g2 := getD_at hv2 (0 : Int)
   have hvs := (v3 i hi2).1
   rw [g1, g2] at hvs
   obtain ⟨w1, w2⟩ := valOK_small hvs
   by_cases h0 : c.fields[i] = 0
   · have hnx : pvI false v.moves c (i + 1) = pvI false v.moves c i ++ [(0, c.values[i])] := by rw [pvI, g1, g2, if_pos h0]
     refine code_sound (more := more8 false _ _) more8_ok FOK.wide _ ?_
     repeat' ((try conv => whnf); first|(first|refine k3 ?_ ?_|refine k4 ?_ ?_) <;> intro hb <;> (try rw [lM] at hb) <;> try (exfalso; omega)|refine s4 nm ?_|refine s5 nm nm ?_|refine aq bd ?_|fail)
     refine ⟨i + 1, Le.map [(300, 51)] ?_ ?_ rfl rfl rfl rfl, by omega, by omega⟩
     · rw [hnx]
       (repeat' (first|exact trivial|refine aq ?_ ?_|exact oq|exact SubA.lsl ls|fail))
       all_goals first
         | (refine SubA.lsl ?_; focus (simp; done))
         | (refine rowEq ?_; focus (simp [encP2]; done))
     · rw [hnx]
       (repeat' (first|exact trivial|refine aq ?_ ?_|refine Exists.intro _ (aq rfl ?_)|exact oq|fail))
       all_goals first
         | (refine SubA.lsl ?_; focus (simp; done))
         | (refine rowEq ?_; focus (simp [encP2]; done))
   · have hnx : pvI false v.moves c (i + 1) = pvI false v.moves c i ++ pvM false v.moves c.fields[i] c.values[i] := by rw [pvI, g1, g2, if_neg h0]
     refine code_sound (more := more8 false _ _) more8_ok FOK.wide _ ?_
     repeat' ((try conv => whnf); first|(first|refine k3 ?_ ?_|refine k4 ?_ ?_) <;> intro hb <;> (try rw [lM] at hb) <;> try (exfalso; omega)|refine s5 nm nm ?_|fail)
     refine Wp.loop (fun k : Nat => ⟨[(5, .loc 5 0 0), (7, .loc 7 0 0), (8, .loc 8 0 0), (10, .loc 10 0 0), (11, .lsl 300 0 (pvI false v.moves c i ++ pvM false (v.moves.take k) c.fields[i] c.values[i]).length), (13, .int c.fields[i]), (14, .int c.values[i]), (33, .pure (encIs c.fields)), (34, .int c.fields.length), (35, .int i), (53, .pure (.sl 5 (v.moves.map encMv))), (54, .int v.moves.length), (55, .int k)],
       [(5, some (.box (pures (encCv v)))), (7, some (.box (pures (encCl c)))), (8, some (.box [.int 0, .pure (.val (.slice none 0 0)), .pure (.val (.slice none 0 0))])), (10, some (.box (pures [.int (cvFrom false v), .int (cvTo false v), .fn (dirFn false) []]))), (300, some (.row 2 ((pvI false v.moves c i ++ pvM false (v.moves.take k) c.fields[i] c.values[i]).map encP2)))], [5, 7, 8, 10, 300]⟩) (fun k => k ≤ v.moves.length) (fun k => v.moves.length - k) 0
       (Le.of ?_ ?_ rfl rfl rfl) (by omega) ?_
     · rw [show pvM false (v.moves.take 0) c.fields[i] c.values[i] = [] from rfl, List.append_nil]
       (repeat' (first|exact trivial|refine aq ?_ ?_|exact oq|exact l1 bd|fail))
     · rw [show pvM false (v.moves.take 0) c.fields[i] c.values[i] = [] from rfl, List.append_nil]
       (repeat' (first|exact trivial|exact rfl|refine aq ?_ ?_|refine Exists.intro _ (aq rfl ?_)|exact oq|fail))
     intro k hk
     by_cases hk2 : k < v.moves.length
     · have hmv := hsh _ (List.getElem_mem hk2)
       have hn := pvM_next (back := false) hk2 c.fields[i] c.values[i]
       have hpm := pvM_len false (v.moves.take k) c.fields[i] c.values[i]
       rw [List.length_take] at hpm
       have lq : ((pvI false v.moves c i ++ pvM false (v.moves.take k) c.fields[i] c.values[i]).map encP2).length = (pvI false v.moves c i).length + (pvM false (v.moves.take k) c.fields[i] c.values[i]).length := by rw [List.length_map, List.length_append]
       have qm : PSpec Try.prog (dirFn false) [.agg (encMv v.moves[k]), .int c.values[i]] (enc3 (mvd false v.moves[k] c.values[i])) := by
         exact directed2_spec _ _ (by omega) (by omega) (by omega) (by omega)
       obtain ⟨x, hx⟩ : ∃ x, x = mvd false v.moves[k] c.values[i] := ⟨_, rfl⟩
       rw [← hx] at qm hn
       by_cases hma : x.1 = c.fields[i]
       · rw [if_pos hma] at hn
         refine code_sound (more := more8 false _ _) more8_ok FOK.wide _ ?_
         repeat' ((try conv => whnf); first|(first|refine k3 ?_ ?_|refine k4 ?_ ?_) <;> intro hb <;> (try rw [lM] at hb) <;> try (exfalso; omega)|refine aq rfl ?_|refine s5 nm nm ?_|fail)
         refine .inl ⟨_, qm, ?_⟩
         repeat' ((try conv => whnf); first|(first|refine k3 ?_ ?_|refine k4 ?_ ?_) <;> intro hb <;> (try rw [lM] at hb) <;> try (exfalso; omega)|refine s4 nm ?_|refine aq bd ?_|fail)
         refine ⟨k + 1, Le.map [(300, 76)] ?_ ?_ rfl rfl rfl rfl, by omega, by omega⟩
         · rw [hn, ← List.append_assoc]
           (repeat' (first|exact trivial|refine aq ?_ ?_|exact oq|exact SubA.lsl ls|fail))
           all_goals first
             | (refine SubA.lsl ?_; focus (simp; done))
             | (refine rowEq ?_; focus (simp [encP2]; done))
         · rw [hn, ← List.append_assoc]
           (repeat' (first|exact trivial|refine aq ?_ ?_|refine Exists.intro _ (aq rfl ?_)|exact oq|fail))
           all_goals first
             | (refine SubA.lsl ?_; focus (simp; done))
             | (refine rowEq ?_; focus (simp [encP2]; done))
       · rw [if_neg hma] at hn
         refine code_sound (more := more8 false _ _) more8_ok FOK.wide _ ?_
         repeat' ((try conv => whnf); first|(first|refine k3 ?_ ?_|refine k4 ?_ ?_) <;> intro hb <;> (try rw [lM] at hb) <;> try (exfalso; omega)|refine aq rfl ?_|refine s5 nm nm ?_|fail)
         refine .inl ⟨_, qm, ?_⟩
         repeat' ((try conv => whnf); first|(first|refine k3 ?_ ?_|refine k4 ?_ ?_) <;> intro hb <;> (try rw [lM] at hb) <;> try (exfalso; omega)|refine s4 nm ?_|fail)
         refine ⟨k + 1, Le.of ?_ ?_ rfl rfl rfl, by omega, by omega⟩
         · rw [hn]
           (repeat' (first|exact trivial|refine aq ?_ ?_|exact oq|fail))
         · rw [hn]
           (repeat' (first|exact trivial|exact rfl|refine aq ?_ ?_|refine Exists.intro _ (aq rfl ?_)|exact oq|fail))
     · have e : k = v.moves.length := by omega
       subst e
       refine code_sound (more := more8 false _ _) more8_ok FOK.wide _ ?_
       repeat' ((try conv => whnf); first|(first|refine k3 ?_ ?_|refine k4 ?_ ?_) <;> intro hb <;> (try rw [lM] at hb) <;> try (exfalso; omega)|refine s4 nm ?_|fail)
       refine ⟨i + 1, Le.of ?_ ?_ rfl rfl rfl, by omega, by omega⟩
       · rw [hnx, List.take_length]
         (repeat' (first|exact trivial|refine aq ?_ ?_|exact oq|fail))
       · rw [hnx, List.take_length]
         (repeat' (first|exact trivial|exact rfl|refine aq ?_ ?_|refine Exists.intro _ (aq rfl ?_)|exact oq|fail))
 · have e : i = c.fields.length := by omega
   subst e
   by_cases hn0 : pvI false v.moves c c.fields.length = []
   · have hd0 : d = [] := List.eq_nil_of_length_eq_zero (by rw [hdl, hn0]; rfl)
     rw [hn0, hd0]
     refine code_sound (more := more8 false _ _) more8_ok FOK.wide _ ?_
     repeat' ((try conv => whnf); first|(first|refine k3 ?_ ?_|refine k4 ?_ ?_) <;> intro hb <;> (try rw [lM] at hb) <;> try (exfalso; omega)|fail)
     refine .inl ⟨_, sortP_none, ?_⟩
     repeat' ((try conv => whnf); first|refine aq rfl ?_|fail)
     refine Wp.loop (fun _ : Nat => ⟨[(8, .loc 8 0 0), (84, .lsl 300 0 0), (85, .int 0), (86, .int 0)], [(8, some (.box [.int (cvTo false v), .pure (.val (.slice none 0 0)), .pure (.val (.slice none 0 0))])), (300, some (.row 2 []))], [8, 300]⟩) (fun _ => True) (fun _ => 0) 0 (Le.of ?_ ?_ rfl rfl rfl) trivial ?_
     · (repeat' (first|exact trivial|refine aq ?_ ?_|exact oq|fail))
     · (repeat' (first|exact trivial|exact rfl|refine aq ?_ ?_|refine Exists.intro _ (aq rfl ?_)|exact oq|fail))
     intro i _
     refine code_sound (more := more8 false _ _) more8_ok FOK.wide _ ?_
     repeat' ((try conv => whnf); first|refine aq rfl ?_|fail)
     exact PSub.tup ⟨PSub.agg ⟨PSub.refl _, PSub.nil 1, PSub.nil 1, trivial⟩, PSub.refl _, trivial⟩
   · refine code_sound (more := more8 false _ _) more8_ok FOK.wide _ ?_
     repeat' ((try conv => whnf); first|(first|refine k3 ?_ ?_|refine k4 ?_ ?_) <;> intro hb <;> (try rw [lM] at hb) <;> try (exfalso; omega)|fail)
     refine .inr ⟨[(100, 300)], [.lsl 100 0 (pvI false v.moves c c.fields.length).length, .fn 49 []], [(100, some (.row 2 ((pvI false v.moves c c.fields.length).map encP2)))], [100], [100], 0, _, sortP_spec _ d (List.length_pos_iff.2 hn0) (by omega) hu, ⟨Or.inl rfl, Or.inl rfl, trivial⟩, ⟨rowEq rfl, trivial⟩, ?_⟩
     repeat' ((try conv => whnf); first|refine aq rfl ?_|fail)
     rw [← hdl]
     refine Wp.loop (fun i : Nat => ⟨[(8, .loc 8 0 0), (84, .lsl 300 0 d.length), (85, .int d.length), (86, .int i)],
       [(8, some (.box [.int (cvTo false v), .lsl 301 0 i, .lsl 302 0 i])), (300, some (.row 2 (d.map encP2))), (301, some (.row 1 (ints ((d.take i).map (·.1))))), (302, some (.row 1 (ints ((d.take i).map (·.2)))))], [8, 300, 301, 302]⟩) (fun i => i ≤ d.length) (fun i => d.length - i) 0
       (Le.trans (Le.virt (k := 301) (sz := 1) rfl rfl (by omega)) (Le.trans (Le.virt (k := 302) (sz := 1) rfl rfl (by omega)) (Le.of ?_ ?_ rfl rfl rfl))) (by omega) ?_
     · (repeat' (first|exact trivial|refine aq ?_ ?_|exact oq|fail))
     · (repeat' (first|exact trivial|exact rfl|refine aq ?_ ?_|refine Exists.intro _ (aq rfl ?_)|exact oq|exact l6 rfl|fail))
     intro i hi
     have ld : (d.map encP2).length = d.length := List.length_map ..
     have lo1 : (ints ((d.take i).map (·.1))).length = i := by simp [ints]; omega
     have lo2 : (ints ((d.take i).map (·.2))).length = i := by simp [ints]; omega
     by_cases hi3 : i < d.length
     · refine code_sound (more := more8 false _ _) more8_ok FOK.wide _ ?_
       repeat' ((try conv => whnf); first|(first|refine k3 ?_ ?_|refine k4 ?_ ?_) <;> intro hb <;> (try rw [lM] at hb) <;> try (exfalso; omega)|refine aq rfl ?_|refine s4 nm ?_|refine aq bd ?_|refine ⟨_, _, getMapN nm, rfl, ?_⟩|refine .inl ⟨_, getMapN nm, rfl, rfl, ?_⟩|refine .inr ⟨rfl, rfl, rfl, ?_⟩|fail)
       have ht1 : ints ((d.take (i + 1)).map (·.1)) = ints ((d.take i).map (·.1)) ++ [[.int d[i].1]] := by rw [List.take_succ_eq_append_getElem hi3, List.map_append]; unfold ints; rw [List.map_append]; rfl
       have ht2 : ints ((d.take (i + 1)).map (·.2)) = ints ((d.take i).map (·.2)) ++ [[.int d[i].2]] := by rw [List.take_succ_eq_append_getElem hi3, List.map_append]; unfold ints; rw [List.map_append]; rfl
       refine ⟨i + 1, Le.map [(301, 95), (302, 102)] ?_ ?_ rfl rfl rfl rfl, by omega, by omega⟩
       · rw [ht1, ht2]
         (repeat' (first|exact trivial|refine aq ?_ ?_|exact oq|fail))
         all_goals first
           | (refine SubA.lsl ?_; focus (simp [ints]; omega; done))
           | (refine rowEq ?_; focus (simp [ints]; done))
       · rw [ht1, ht2]
         (repeat' (first|exact trivial|exact rfl|refine aq ?_ ?_|refine Exists.intro _ (aq rfl ?_)|exact oq|exact rowEq rs|fail))
         all_goals first
           | (refine SubA.lsl ?_; focus (simp [ints]; omega; done))
           | (refine rowEq ?_; focus (simp [ints]; done))
     · have e : i = d.length := by omega
       subst e
       rw [List.take_length]
       refine code_sound (more := more8 false _ _) more8_ok FOK.wide _ ?_
       repeat' ((try conv => whnf); first|(first|refine k3 ?_ ?_|refine k4 ?_ ?_) <;> intro hb <;> (try rw [lM] at hb) <;> try (exfalso; omega)|refine aq rfl ?_|fail)
       refine PSub.of_eq ?_
       simp [encCE, encCl, clOf, encIs, ints, List.take_of_length_le]
end Go.Proofs.Ytihbkbioafdhjaa
/- Versions: lists of numbers that are equal. Conditions: none. -/
namespace Go.Proofs.Ytihbkbioafdhjaa
open Go.Avc
theorem eq_atI {a b : List Int} (hl : a.length = b.length) (h : ∀ j (h1 : j < a.length) (h2 : j < b.length), a[j] = b[j]) : a = b := List.ext_getElem hl h
attribute [local irreducible] PSub Wp PSpec Le Need Both
theorem sameInts_spec (a b : List Int) (hl : a.length ≤ 1000000) : PSpec Try.prog 22 [encIs a, encIs b] (.bool (decide (a = b))) := by
 have la : (a.map fun x => [PV.int x]).length = a.length := List.length_map ..
 have lb : (b.map fun x => [PV.int x]).length = b.length := List.length_map ..
 by_cases hn : a.length = b.length
 case neg =>
   rw [decide_eq_false (fun h => hn (by rw [h]))]
   refine PSpec.of_vc (fun Γ => more8 false Γ.P Γ.fx) (fun Γ => more8_ok) Try.func22 rfl Try.call22 (by simp) ?_
   rintro ⟨P, N, w0, X, β0, fx, y, hy, pk, df⟩ rfl rfl rfl hoff rfl; change y.on = false at hoff
   repeat' ((try conv => whnf); first|(first|refine k3 ?_ ?_|refine k4 ?_ ?_) <;> intro hb <;> (try rw [lM] at hb) <;> try (exfalso; omega)|fail)
   exact PSub.refl _
 refine PSpec.of_vc (fun Γ => more8 false Γ.P Γ.fx) (fun Γ => more8_ok) Try.func22 rfl Try.call22 (by simp) ?_
 rintro ⟨P, N, w0, X, β0, fx, y, hy, pk, df⟩ rfl rfl rfl hoff rfl; change y.on = false at hoff
 repeat' ((try conv => whnf); first|(first|refine k3 ?_ ?_|refine k4 ?_ ?_) <;> intro hb <;> (try rw [lM] at hb) <;> try (exfalso; omega)|fail)
 refine Wp.loop (fun k : Nat => ⟨[(0, .pure (encIs a)), (1, .pure (encIs b)), (5, .int k)], [], []⟩) (fun k => k ≤ a.length ∧ ∀ j (h1 : j < a.length) (h2 : j < b.length), j < k → a[j] = b[j]) (fun k => a.length - k) 0 (Le.of ?_ ?_ rfl rfl rfl) ⟨by omega, fun j _ _ h => by omega⟩ ?_
 · (repeat' (first|exact trivial|refine aq ?_ ?_|exact oq|fail))
 · (repeat' (first|exact trivial|fail))
 intro k ⟨hk, ho⟩
 by_cases hk2 : k < a.length
 · have hk3 : k < b.length := by omega
   by_cases he : a[k] = b[k]
   · refine code_sound (more := more8 false _ _) more8_ok FOK.wide _ ?_
     repeat' ((try conv => whnf); first|(first|refine k3 ?_ ?_|refine k4 ?_ ?_) <;> intro hb <;> (try rw [lM] at hb) <;> try (exfalso; omega)|fail)
     refine Wp.draw (more := more8 true _ _) more8_det more8_ok FOK.wide rfl (by decide +kernel) (by conv => lhs; reduce) ?_
     repeat' ((try conv => whnf); first|(first|refine k3 ?_ ?_|refine k4 ?_ ?_) <;> intro hb <;> (try rw [lM] at hb) <;> try (exfalso; omega)|refine s4 nm ?_|refine s5 nm nm ?_|fail)
     refine ⟨k + 1, Le.of (by (repeat' (first|exact trivial|refine aq ?_ ?_|exact oq|fail))) (by (repeat' (first|exact trivial|fail))) rfl rfl rfl, ⟨by omega, fun j h1 h2 hj => ?_⟩, by omega⟩
     rcases Nat.lt_succ_iff_lt_or_eq.1 hj with hj | rfl
     · exact ho j h1 h2 hj
     · exact he
   · rw [decide_eq_false (fun h => he (by subst h; rfl))]
     refine code_sound (more := more8 false _ _) more8_ok FOK.wide _ ?_
     repeat' ((try conv => whnf); first|(first|refine k3 ?_ ?_|refine k4 ?_ ?_) <;> intro hb <;> (try rw [lM] at hb) <;> try (exfalso; omega)|fail)
     refine Wp.draw (more := more8 true _ _) more8_det more8_ok FOK.wide rfl (by decide +kernel) (by conv => lhs; reduce) ?_
     repeat' ((try conv => whnf); first|(first|refine k3 ?_ ?_|refine k4 ?_ ?_) <;> intro hb <;> (try rw [lM] at hb) <;> try (exfalso; omega)|refine s5 nm nm ?_|fail)
     exact PSub.refl _
 · rw [decide_eq_true (eq_atI hn fun j h1 h2 => ho j h1 h2 (by omega))]
   refine code_sound (more := more8 false _ _) more8_ok FOK.wide _ ?_
   repeat' ((try conv => whnf); first|(first|refine k3 ?_ ?_|refine k4 ?_ ?_) <;> intro hb <;> (try rw [lM] at hb) <;> try (exfalso; omega)|fail)
   exact PSub.refl _
def sameP (a b : Cl) : Prop := a.schema = b.schema ∧ a.fields = b.fields ∧ a.values = b.values
instance (a b : Cl) : Decidable (sameP a b) := by unfold sameP; infer_instance
theorem same_spec (a b : Cl) (h1 : a.fields.length ≤ 1000000) (h2 : a.values.length ≤ 1000000) : PSpec Try.prog 15 [.agg (encCl a), .agg (encCl b)] (.bool (decide (sameP a b))) := by
 have q1 := sameInts_spec a.fields b.fields h1
 have q2 := sameInts_spec a.values b.values h2
 by_cases e0 : a.schema = b.schema
 case neg =>
   rw [decide_eq_false (fun h : sameP a b => e0 h.1)]
   refine PSpec.of_vc (fun Γ => more8 false Γ.P Γ.fx) (fun Γ => more8_ok) Try.func15 rfl Try.call15 (by simp) ?_
   rintro ⟨P, N, w0, X, β0, fx, y, hy, pk, df⟩ rfl rfl rfl hoff rfl; change y.on = false at hoff
   repeat' ((try conv => whnf); first|(first|refine k3 ?_ ?_|refine k4 ?_ ?_) <;> intro hb <;> (try rw [lM] at hb) <;> try (exfalso; omega)|fail)
   exact PSub.refl _
 by_cases e1 : a.fields = b.fields
 case neg =>
   rw [decide_eq_false (fun h : sameP a b => e1 h.2.1)]
   rw [decide_eq_false e1] at q1
   refine PSpec.of_vc (fun Γ => more8 false Γ.P Γ.fx) (fun Γ => more8_ok) Try.func15 rfl Try.call15 (by simp) ?_
   rintro ⟨P, N, w0, X, β0, fx, y, hy, pk, df⟩ rfl rfl rfl hoff rfl; change y.on = false at hoff
   repeat' ((try conv => whnf); first|(first|refine k3 ?_ ?_|refine k4 ?_ ?_) <;> intro hb <;> (try rw [lM] at hb) <;> try (exfalso; omega)|fail)
   refine .inl ⟨_, q1, ?_⟩
   skip
   exact PSub.refl _
 rw [decide_eq_true e1] at q1
 refine PSpec.of_vc (fun Γ => more8 false Γ.P Γ.fx) (fun Γ => more8_ok) Try.func15 rfl Try.call15 (by simp) ?_
 rintro ⟨P, N, w0, X, β0, fx, y, hy, pk, df⟩ rfl rfl rfl hoff rfl; change y.on = false at hoff
 repeat' ((try conv => whnf); first|(first|refine k3 ?_ ?_|refine k4 ?_ ?_) <;> intro hb <;> (try rw [lM] at hb) <;> try (exfalso; omega)|fail)
 refine .inl ⟨_, q1, ?_⟩
 skip
 refine .inl ⟨_, q2, ?_⟩
 skip
 exact sub_bool (decide_eq_decide.2 ⟨fun h => ⟨e0, e1, h⟩, fun h => h.2.2⟩)
end Go.Proofs.Ytihbkbioafdhjaa
/- Versions: where an element of a way begins and ends. Conditions: none. -/
namespace Go.Proofs.Ytihbkbioafdhjaa
open Go.Avc
attribute [local irreducible] PSub Wp PSpec Le Need Both
theorem ends_spec (s : Src) (hs : s.sz) (n : Nat) (hn : n / 2 < s.converts.length) : PSpec Try.prog 32 [.agg (encSrc s), .int n] (.tup [.int (cvFrom (n % 2 == 1) s.converts[n / 2]), .int (cvTo (n % 2 == 1) s.converts[n / 2])]) := by
 have hl := hs.lc
 have lC : (s.converts.map encCv).length = s.converts.length := List.length_map ..
 have d1 : ((n : Int).tdiv 2) = ((n / 2 : Nat) : Int) := rfl
 have d2 : ((n : Int).tmod 2) = ((n % 2 : Nat) : Int) := rfl
 rcases Nat.mod_two_eq_zero_or_one n with h0 | h0
 · rw [h0]
   rw [h0] at d2
   refine PSpec.of_vc (fun Γ => more8 false Γ.P Γ.fx) (fun Γ => more8_ok) Try.func32 rfl Try.call32 (by simp) ?_
   rintro ⟨P, N, w0, X, β0, fx, y, hy, pk, df⟩ rfl rfl rfl hoff rfl; change y.on = false at hoff
   repeat' ((try conv => whnf); first|refine aq rfl ?_|refine s4 nm ?_|refine s5 nm nm ?_|refine aq bd ?_|fail)
   refine ⟨_, d2, ?_⟩
   skip
   refine Wp.draw (more := more8 true _ _) more8_det more8_ok FOK.wide rfl (by decide +kernel) (by conv => lhs; reduce) ?_
   skip
   exact PSub.refl _
 · rw [h0]
   rw [h0] at d2
   refine PSpec.of_vc (fun Γ => more8 false Γ.P Γ.fx) (fun Γ => more8_ok) Try.func32 rfl Try.call32 (by simp) ?_
   rintro ⟨P, N, w0, X, β0, fx, y, hy, pk, df⟩ rfl rfl rfl hoff rfl; change y.on = false at hoff
   repeat' ((try conv => whnf); first|refine aq rfl ?_|refine s4 nm ?_|refine s5 nm nm ?_|refine aq bd ?_|fail)
   refine ⟨_, d2, ?_⟩
   skip
   refine Wp.draw (more := more8 true _ _) more8_det more8_ok FOK.wide rfl (by decide +kernel) (by conv => lhs; reduce) ?_
   skip
   exact PSub.refl _
end Go.Proofs.Ytihbkbioafdhjaa
/- Versions: sorting is putting one by one; a conversion can be undone. Conditions: none. -/
namespace Go.Proofs.Ytihbkbioafdhjaa
open Go.Avc
theorem sorted_uniq {α : Type} {lt : α → α → Prop} (hi : ∀ a, ¬ lt a a) (ht : ∀ a b c, lt a b → lt b c → lt a c) : ∀ {l m : List α}, l.Pairwise lt → m.Pairwise lt → (∀ x, x ∈ l ↔ x ∈ m) → l = m
 | [], [], _, _, _ => rfl
 | [], b :: m, _, _, h => by have := (h b).2 (by simp); cases this
 | a :: l, [], _, _, h => by have := (h a).1 (by simp); cases this
 | a :: l, b :: m, hl, hm, h => by
   obtain ⟨l1, l2⟩ := List.pairwise_cons.1 hl
   obtain ⟨m1, m2⟩ := List.pairwise_cons.1 hm
   have e : a = b := by
     rcases List.mem_cons.1 ((h a).1 (by simp)) with e | e
     · exact e
     · rcases List.mem_cons.1 ((h b).2 (by simp)) with e' | e'
       · exact e'.symm
       · exact absurd (ht _ _ _ (m1 a e) (l1 b e')) (hi b)
   subst e
   congr 1
   refine sorted_uniq hi ht l2 m2 fun x => ⟨fun hx => ?_, fun hx => ?_⟩
   · rcases List.mem_cons.1 ((h x).1 (List.mem_cons_of_mem _ hx)) with rfl | e'
     · exact absurd (l1 _ hx) (hi _)
     · exact e'
   · rcases List.mem_cons.1 ((h x).2 (List.mem_cons_of_mem _ hx)) with rfl | e'
     · exact absurd (m1 _ hx) (hi _)
     · exact e'
theorem nodup_lt : ∀ {n : Nat} {js : List Nat}, js.Nodup → (∀ j ∈ js, j < n) → js.length ≤ n
 | 0, js, _, hb => by
   cases js with
   | nil => exact Nat.le_refl _
   | cons j js => have := hb j (by simp); omega
 | n + 1, js, h, hb => by
   have h1 := nodup_lt (n := n) (h.erase n) fun j hj => by
     have h2 := (h.mem_erase_iff).1 hj
     have := hb j h2.2
     have := h2.1
     omega
   have h3 : js.length ≤ (js.erase n).length + 1 := by rw [List.length_erase]; split <;> omega
   omega
theorem nodup_int {n : Nat} {l : List Int} (h : l.Nodup) (hb : ∀ x ∈ l, 0 ≤ x ∧ x < n) : l.length ≤ n := by
 have := nodup_lt (n := n) (js := l.map Int.toNat) ?_ ?_
 · simpa using this
 · rw [List.Nodup, List.pairwise_map]
   refine List.Pairwise.imp_of_mem ?_ h
   intro a b ha hb' hne
   have := hb a ha
   have := hb b hb'
   omega
 · intro j hj
   obtain ⟨x, hx, rfl⟩ := List.mem_map.1 hj
   have := hb x hx
   omega
theorem pig {n : Nat} {l : List Int} (h : l.Nodup) (hb : ∀ x ∈ l, 1 ≤ x ∧ x ≤ n) (hl : l.length = n) (f : Int) (h1 : 1 ≤ f) (h2 : f ≤ n) : f ∈ l := by
 refine Classical.byContradiction fun hf => ?_
 have := nodup_int (n := n) (l := (f :: l).map (· - 1)) ?_ ?_
 · simp at this; omega
 · rw [List.Nodup, List.pairwise_map]
   exact (List.nodup_cons.2 ⟨hf, h⟩).imp fun {a b} hne e => hne (by omega)
 · intro x hx
   obtain ⟨y, hy, rfl⟩ := List.mem_map.1 hx
   rcases List.mem_cons.1 hy with rfl | hy
   · omega
   · have := hb y hy; omega
theorem nodup_pre {α : Type} {l : List α} (h : ∀ j (hj : j < l.length), l[j] ∉ l.take j) : l.Nodup := by
 rw [List.Nodup, List.pairwise_iff_getElem]
 intro i j hi hj hij e
 refine h j hj ?_
 rw [← e]
 exact List.mem_take_iff_getElem.2 ⟨i, by omega, rfl⟩
structure Good (mv : List Mv) : Prop where
 a1 : ∀ m ∈ mv, 1 ≤ m.a ∧ m.a ≤ mv.length
 b1 : ∀ m ∈ mv, 1 ≤ m.b ∧ m.b ≤ mv.length
 an : (mv.map (·.a)).Nodup
 bn : (mv.map (·.b)).Nodup
theorem Good.turn {mv : List Mv} (h : Good mv) : Good (mv.map trn) := by
 refine ⟨fun m hm => ?_, fun m hm => ?_, ?_, ?_⟩
 · obtain ⟨x, hx, rfl⟩ := List.mem_map.1 hm
   rw [List.length_map]
   exact h.b1 x hx
 · obtain ⟨x, hx, rfl⟩ := List.mem_map.1 hm
   rw [List.length_map]
   exact h.a1 x hx
 · rw [List.map_map]; exact h.bn
 · rw [List.map_map]; exact h.an
def mvOf (mv : List Mv) (f : Int) : Option Mv := mv.find? fun m => decide (m.a = f)
def toF (mv : List Mv) (f : Int) : Int := if f = 0 then 0 else ((mvOf mv f).map (·.b)).getD 0
def shF (mv : List Mv) (f : Int) : Int := if f = 0 then 0 else ((mvOf mv f).map (·.shift)).getD 0
def cvt (mv : List Mv) (p : Int × Int) : Int × Int := (toF mv p.1, p.2 + shF mv p.1)
theorem filter_one {α : Type} {f : α → Int} : ∀ {l : List α} {m : α}, (l.map f).Nodup → m ∈ l → l.filter (fun x => decide (f x = f m)) = [m] ∧ l.find? (fun x => decide (f x = f m)) = some m
 | [], _, _, h => by cases h
 | x :: l, m, hn, h => by
   rw [List.map_cons, List.nodup_cons] at hn
   rcases List.mem_cons.1 h with rfl | h
   · have : l.filter (fun x => decide (f x = f m)) = [] := List.filter_eq_nil_iff.2 fun y hy e => hn.1 (by
       rw [← of_decide_eq_true e]; exact List.mem_map.2 ⟨y, hy, rfl⟩)
     simp [this]
   · have hne : ¬ f x = f m := fun e => hn.1 (by rw [e]; exact List.mem_map.2 ⟨m, h, rfl⟩)
     obtain ⟨h1, h2⟩ := filter_one hn.2 h
     simp [hne, h1, h2]
theorem Good.of {mv : List Mv} (h : Good mv) {f : Int} (h1 : 1 ≤ f) (h2 : f ≤ mv.length) : ∃ m ∈ mv, m.a = f := by
 have := pig h.an (fun x hx => by obtain ⟨m, hm, rfl⟩ := List.mem_map.1 hx; exact h.a1 m hm) (by simp) f h1 h2
 obtain ⟨m, hm, e⟩ := List.mem_map.1 this
 exact ⟨m, hm, e⟩
theorem Good.mvOf {mv : List Mv} (h : Good mv) {m : Mv} (hm : m ∈ mv) : mvOf mv m.a = some m := (filter_one h.an hm).2
theorem Good.to {mv : List Mv} (h : Good mv) {m : Mv} (hm : m ∈ mv) : toF mv m.a = m.b ∧ shF mv m.a = m.shift := by
 have := (h.a1 m hm).1
 unfold toF shF
 rw [h.mvOf hm, if_neg (by omega), if_neg (by omega)]
 exact ⟨rfl, rfl⟩
theorem prM_zero {mv : List Mv} (h : Good mv) (v : Int) : prM mv 0 v = [] := by
 unfold prM
 rw [List.filter_eq_nil_iff.2 fun m hm e => by have := (h.a1 m hm).1; have := of_decide_eq_true e; omega]
 rfl
theorem pr_one {mv : List Mv} (h : Good mv) {f : Int} (h0 : 0 ≤ f) (h1 : f ≤ mv.length) (v : Int) : prZ f v ++ prM mv f v = [cvt mv (f, v)] := by
 by_cases e : f = 0
 · subst e
   rw [prM_zero h]
   simp [prZ, cvt, toF, shF]
 · obtain ⟨m, hm, rfl⟩ := h.of (by omega : 1 ≤ f) h1
   obtain ⟨t1, t2⟩ := h.to hm
   unfold prM prZ cvt
   rw [(filter_one h.an hm).1, if_neg e, t1, t2]
   rfl
def clL (c : Cl) : List (Int × Int) := c.fields.zip c.values
theorem clL_clOf (k : Int) (l : List (Int × Int)) : clL (clOf k l) = l := by
 unfold clL clOf
 induction l with
 | nil => rfl
 | cons p l ih => simp only [List.map_cons, List.zip_cons_cons, ih]
theorem clOf_clL {c : Cl} (h : c.fields.length = c.values.length) : clOf c.schema (clL c) = c := by
 obtain ⟨k, fs, vs⟩ := c
 unfold clL clOf
 simp only [Cl.mk.injEq, true_and]
 exact ⟨List.map_fst_zip (by simp at h; omega), List.map_snd_zip (by simp at h; omega)⟩
theorem clL_at {c : Cl} {i : Nat} (hf : i < c.fields.length) (hv : i < c.values.length) : (clL c)[i]? = some (c.fields[i], c.values[i]) := by
 unfold clL
 rw [List.getElem?_eq_getElem (by rw [List.length_zip]; omega), List.getElem_zip]
theorem prI_map {mv : List Mv} (h : Good mv) {c : Cl} (hl : c.fields.length = c.values.length) (hr : ∀ f ∈ c.fields, 0 ≤ f ∧ f ≤ mv.length) : ∀ i, i ≤ c.fields.length → prI mv c i = ((clL c).take i).map (cvt mv)
 | 0, _ => by simp [prI]
 | i + 1, hi => by
   have hf : i < c.fields.length := by omega
   have hv : i < c.values.length := by omega
   have hr' := hr _ (List.getElem_mem hf)
   rw [prI, prI_map h hl hr i (by omega), getD_at hf, getD_at hv, pr_one h hr'.1 hr'.2]
   have : (clL c).take (i + 1) = (clL c).take i ++ [(c.fields[i], c.values[i])] := by
     rw [List.take_add_one, clL_at hf hv]; rfl
   rw [this, List.map_append]
   rfl
theorem to_turn {mv : List Mv} (h : Good mv) {f : Int} (h0 : 0 ≤ f) (h1 : f ≤ mv.length) : toF (mv.map trn) (toF mv f) = f ∧ shF (mv.map trn) (toF mv f) = - shF mv f ∧ 0 ≤ toF mv f ∧ toF mv f ≤ mv.length := by
 by_cases e : f = 0
 · subst e; simp [toF, shF]
 · obtain ⟨m, hm, rfl⟩ := h.of (by omega : 1 ≤ f) h1
   obtain ⟨t1, t2⟩ := h.to hm
   have hm' : trn m ∈ mv.map trn := List.mem_map.2 ⟨m, hm, rfl⟩
   obtain ⟨u1, u2⟩ := h.turn.to hm'
   have hb := h.b1 m hm
   rw [t1, t2]
   exact ⟨u1, u2, by omega, hb.2⟩
theorem cvt_turn {mv : List Mv} (h : Good mv) {p : Int × Int} (h0 : 0 ≤ p.1) (h1 : p.1 ≤ mv.length) : cvt (mv.map trn) (cvt mv p) = p := by
 obtain ⟨t1, t2, _⟩ := to_turn h h0 h1
 unfold cvt
 refine Prod.ext t1 ?_
 show p.2 + shF mv p.1 + shF (mv.map trn) (toF mv p.1) = p.2
 rw [t2]; omega
theorem insP_perm (p : Int × Int) : ∀ l, (insP p l).Perm (p :: l)
 | [] => List.Perm.refl _
 | q :: l => by
   unfold insP
   split
   · exact List.Perm.refl _
   · exact ((insP_perm p l).cons q).trans (List.Perm.swap p q l)
theorem insP_sorted (p : Int × Int) : ∀ {l : List (Int × Int)}, l.Pairwise (fun x y => x.1 ≤ y.1) → (insP p l).Pairwise (fun x y => x.1 ≤ y.1)
 | [], _ => by simp [insP]
 | q :: l, h => by
   obtain ⟨h1, h2⟩ := List.pairwise_cons.1 h
   unfold insP
   split
   · rename_i hlt
     refine List.pairwise_cons.2 ⟨fun x hx => ?_, h⟩
     rcases List.mem_cons.1 hx with rfl | hx
     · omega
     · have := h1 x hx; omega
   · rename_i hlt
     refine List.pairwise_cons.2 ⟨fun x hx => ?_, insP_sorted p h2⟩
     rcases List.mem_cons.1 ((insP_perm p l).mem_iff.1 hx) with rfl | hx
     · omega
     · exact h1 x hx
theorem insF_perm : ∀ (l o : List (Int × Int)), (l.foldl (fun o p => insP p o) o).Perm (o ++ l)
 | [], o => by simp
 | p :: l, o => by
   rw [List.foldl_cons]
   refine (insF_perm l _).trans ?_
   refine ((insP_perm p o).append_right l).trans ?_
   exact List.perm_middle.symm
theorem insF_sorted : ∀ (l : List (Int × Int)) {o : List (Int × Int)}, o.Pairwise (fun x y => x.1 ≤ y.1) → (l.foldl (fun o p => insP p o) o).Pairwise (fun x y => x.1 ≤ y.1)
 | [], o, h => h
 | p :: l, o, h => insF_sorted l (insP_sorted p h)
theorem insAll_perm (l : List (Int × Int)) : (insAll l).Perm l := by have := insF_perm l []; rw [List.nil_append] at this; exact this
def ne1 (x y : Int × Int) : Prop := x.1 ≠ y.1
theorem insAll_sorted {l : List (Int × Int)} (hd : l.Pairwise ne1) : (insAll l).Pairwise ltP := by
 have h1 : (insAll l).Pairwise (fun x y => x.1 ≤ y.1) := insF_sorted l List.Pairwise.nil
 have h2 : (insAll l).Pairwise ne1 := ((insAll_perm l).pairwise_iff (fun {_ _} h => Ne.symm h)).2 hd
 exact (h1.and h2).imp fun {x y} h => by
   obtain ⟨a, b⟩ := h
   unfold ne1 at b
   unfold ltP
   omega
theorem ltP_irr (a : Int × Int) : ¬ ltP a a := by unfold ltP; omega
theorem ltP_tr (a b c : Int × Int) (h : ltP a b) (k : ltP b c) : ltP a c := by unfold ltP at *; omega
theorem ltP_ne {l : List (Int × Int)} (h : l.Pairwise ltP) : l.Pairwise ne1 := h.imp fun {x y} h => by unfold ltP at h; unfold ne1; omega
theorem insAll_unique {l r : List (Int × Int)} (hd : l.Pairwise ne1) (hp : r.Perm l) (hs : r.Pairwise fun x y => ¬ ltP y x) : r = insAll l := by
 refine sorted_uniq ltP_irr ltP_tr ?_ (insAll_sorted hd) fun x => by rw [hp.mem_iff, (insAll_perm l).mem_iff]
 have h2 : r.Pairwise ne1 := (hp.pairwise_iff (fun {_ _} h => Ne.symm h)).2 hd
 exact (hs.and h2).imp fun {x y} h => by
   obtain ⟨a, b⟩ := h
   unfold ne1 at b
   unfold ltP at *
   omega
theorem insAll_is {l r : List (Int × Int)} (hs : r.Pairwise ltP) (hp : r.Perm l) : insAll l = r :=
 (insAll_unique (l := l) ((hp.pairwise_iff (fun {_ _} h => Ne.symm h)).1 (ltP_ne hs)) hp (hs.imp fun {x y} h h' => ltP_irr _ (ltP_tr _ _ _ h h'))).symm
theorem cvt_ne {mv : List Mv} (h : Good mv) {l : List (Int × Int)} (hd : l.Pairwise ne1) (hr : ∀ p ∈ l, 0 ≤ p.1 ∧ p.1 ≤ mv.length) : (l.map (cvt mv)).Pairwise ne1 := by
 rw [List.pairwise_map]
 refine List.Pairwise.imp_of_mem ?_ hd
 intro a b ha hb hne e
 refine hne ?_
 have e' : toF mv a.1 = toF mv b.1 := e
 have r1 := hr a ha
 have r2 := hr b hb
 rw [← (to_turn h r1.1 r1.2).1, ← (to_turn h r2.1 r2.2).1, e']
end Go.Proofs.Ytihbkbioafdhjaa
/- Versions: conversions that are two-way can be turned; what is converted is valid. Conditions: none. -/
namespace Go.Proofs.Ytihbkbioafdhjaa
open Go.Avc
theorem twoP_good {s : Src} {v : Cv} (h : twoP s v) : Good v.moves := by
 obtain ⟨h1, h2, h3, h4, h5, h6⟩ := h
 have g : ∀ j (hj : j < v.moves.length), v.moves.getD j zeroMv = v.moves[j] := fun j hj => getD_at hj _
 refine ⟨fun m hm => ?_, fun m hm => ?_, nodup_pre fun j hj => ?_, nodup_pre fun j hj => ?_⟩
 · obtain ⟨j, hj, rfl⟩ := List.getElem_of_mem hm
   have := (h6 j hj).1
   rw [g j hj, h4, h5] at this
   omega
 · obtain ⟨j, hj, rfl⟩ := List.getElem_of_mem hm
   have := (h6 j hj).1
   rw [g j hj, h4, h5] at this
   omega
 · rw [List.length_map] at hj
   have := (h6 j hj).2.1
   rw [g j hj] at this
   rw [List.getElem_map, ← List.map_take]
   exact this
 · rw [List.length_map] at hj
   have := (h6 j hj).2.2.1
   rw [g j hj] at this
   rw [List.getElem_map, ← List.map_take]
   exact this
theorem fitP_turn {a b : Ty} {sh : Int} (h : fitP a b sh) : fitP b a (-sh) := by
 unfold fitP at *
 obtain ⟨h1, h2⟩ := h
 refine ⟨h1.symm, ?_⟩
 rw [← h1]
 rcases h2 with ⟨k, l, m, u⟩ | ⟨k, l, m, n, u⟩
 · exact .inl ⟨k, by omega, by omega, u.symm⟩
 · exact .inr ⟨k, by omega, m.symm, n.symm, u.symm⟩
theorem twoP_turn {s : Src} {v : Cv} (h : twoP s v) : twoP s (turnC v) := by
 have hg := (twoP_good h).turn
 obtain ⟨h1, h2, h3, h4, h5, h6⟩ := h
 have lm : (turnC v).moves.length = v.moves.length := by simp [turnC]
 refine ⟨Ne.symm h1, h3, h2, by rw [lm]; exact h5, by rw [lm]; exact h4, fun j hj => ?_⟩
 have hj' : j < v.moves.length := by omega
 have g : (turnC v).moves.getD j zeroMv = trn v.moves[j] := by rw [getD_at hj]; simp [turnC]
 obtain ⟨i1, i2, i3, i4⟩ := h6 j hj'
 rw [getD_at hj'] at i1 i2 i3 i4
 unfold mvP
 rw [g]
 have e : (turnC v).moves.take j = (v.moves.take j).map trn := by simp [turnC]
 rw [e, List.map_map, List.map_map]
 exact ⟨⟨i1.2.2.1, i1.2.2.2, i1.1, i1.2.1⟩, i3, i2, fitP_turn i4⟩
theorem fields_nat {s : Src} {a : Int} (h : wholeAt s a = true) : ∃ (k : Nat) (hk : k < s.schemas.length), a = k ∧ fieldsAt s a = s.schemas[k].fields ∧ wholeB s.units.length s.schemas[k].fields = true := by
 obtain ⟨k, hk, rfl, hw⟩ := wholeAt_in h
 exact ⟨k, hk, rfl, fieldsAt_nat hk, hw⟩
theorem tyAt_fields {s : Src} {a : Int} (h : wholeAt s a = true) {i : Nat} (hi : i < (fieldsAt s a).length) : tyAt s a i = some ((fieldsAt s a).getD i zeroFd).ty ∧ tyOK s.units.length ((fieldsAt s a).getD i zeroFd).ty := by
 obtain ⟨k, hk, rfl, hf, hw⟩ := fields_nat h
 rw [hf] at hi ⊢
 rw [tyAt_some hk hi, getD_at hi]
 exact ⟨rfl, (wholeB_small hw hi).2⟩
theorem whole_first {s : Src} {a : Int} (h : wholeAt s a = true) (hl : 0 < (fieldsAt s a).length) : ((fieldsAt s a).getD 0 zeroFd).ty.kind = 3 := by
 obtain ⟨k, hk, rfl, hf, hw⟩ := fields_nat h
 rw [hf] at hl ⊢
 unfold wholeB at hw
 obtain ⟨fs, hfs⟩ : ∃ fs, fs = s.schemas[k].fields := ⟨_, rfl⟩
 rw [← hfs] at hw hl ⊢
 cases fs with
 | nil => simp at hl
 | cons f l => simp at hw ⊢; exact hw.2
theorem valOK_iff {s : Src} {a : Int} (h : wholeAt s a = true) {i : Nat} (hi : i < (fieldsAt s a).length) (v : Int) : valOK s a i v = true ↔ ((fieldsAt s a).getD i zeroFd).ty.lo ≤ v ∧ v ≤ ((fieldsAt s a).getD i zeroFd).ty.hi := by
 obtain ⟨h1, h2⟩ := tyAt_fields h hi
 unfold valOK
 rw [h1]
 simp only [Bool.and_eq_true, decide_eq_true_eq]
 exact ⟨fun h => h.2, fun h => ⟨h2, h⟩⟩
theorem valOK_range {s : Src} {a f v : Int} (h : wholeAt s a = true) (hv : valOK s a f v = true) : ∃ i : Nat, f = i ∧ i < (fieldsAt s a).length := by
 obtain ⟨k, hk, rfl, hf, hw⟩ := fields_nat h
 obtain ⟨a', m, ha, hm, e1, rfl⟩ := valOK_in hv
 obtain rfl : k = a' := by omega
 exact ⟨m, rfl, by rw [hf]; exact hm⟩
theorem twoP_shift {s : Src} {v : Cv} (h : twoP s v) : ∀ m ∈ v.moves, -1048576 ≤ m.shift ∧ m.shift ≤ 1048576 := by
 intro m hm
 obtain ⟨h1, h2, h3, h4, h5, h6⟩ := h
 obtain ⟨j, hj, rfl⟩ := List.getElem_of_mem hm
 obtain ⟨i1, i2, i3, i4⟩ := h6 j hj
 rw [getD_at hj] at i1 i4
 obtain ⟨ia, hia⟩ : ∃ i : Nat, v.moves[j].a = i := ⟨v.moves[j].a.toNat, by omega⟩
 obtain ⟨ib, hib⟩ : ∃ i : Nat, v.moves[j].b = i := ⟨v.moves[j].b.toNat, by omega⟩
 rw [hia, hib] at i4
 have ta := (tyOK_small (tyAt_fields h2 (i := ia) (by omega)).2).1
 have tb := (tyOK_small (tyAt_fields h3 (i := ib) (by omega)).2).1
 rw [Int.toNat_natCast, Int.toNat_natCast] at i4
 obtain ⟨a1, a2, a3, a4⟩ := ta
 obtain ⟨b1, b2, b3, b4⟩ := tb
 unfold fitP at i4
 omega
theorem cvt_val {s : Src} {v : Cv} (h : twoP s v) {f x : Int} (hv : valOK s v.a f x = true) : 0 ≤ f ∧ f ≤ v.moves.length ∧ valOK s v.b (toF v.moves f) (x + shF v.moves f) = true := by
 have hg := twoP_good h
 obtain ⟨h1, h2, h3, h4, h5, h6⟩ := h
 obtain ⟨i, rfl, hi⟩ := valOK_range h2 hv
 refine ⟨by omega, by omega, ?_⟩
 rw [valOK_iff h2 hi] at hv
 by_cases h0 : (i : Int) = 0
 · have hi0 : i = 0 := by omega
   subst hi0
   have e1 : toF v.moves ((0 : Nat) : Int) = ((0 : Nat) : Int) := rfl
   have e2 : shF v.moves ((0 : Nat) : Int) = 0 := rfl
   rw [e1, e2, valOK_iff h3 (by omega)]
   have k1 := whole_first h2 (by omega)
   have k2 := whole_first h3 (by omega)
   have t1 := (tyAt_fields h2 (i := 0) (by omega)).2
   have t2 := (tyAt_fields h3 (i := 0) (by omega)).2
   unfold tyOK at t1 t2
   rw [k1] at t1
   rw [k2] at t2
   have l1 : ((fieldsAt s v.a).getD 0 zeroFd).ty.lo = 0 ∧ ((fieldsAt s v.a).getD 0 zeroFd).ty.hi = 4095 := by omega
   have l2 : ((fieldsAt s v.b).getD 0 zeroFd).ty.lo = 0 ∧ ((fieldsAt s v.b).getD 0 zeroFd).ty.hi = 4095 := by omega
   rw [l1.1, l1.2] at hv
   rw [l2.1, l2.2]
   omega
 · obtain ⟨m, hm, hma⟩ := hg.of (by omega : 1 ≤ (i : Int)) (by omega)
   obtain ⟨t1, t2⟩ := hg.to hm
   rw [← hma, t1, t2]
   obtain ⟨j, hj, rfl⟩ := List.getElem_of_mem hm
   obtain ⟨i1, i2, i3, i4⟩ := h6 j hj
   rw [getD_at hj] at i1 i4
   obtain ⟨ib, hib⟩ : ∃ i : Nat, v.moves[j].b = i := ⟨v.moves[j].b.toNat, by omega⟩
   rw [hma, hib, Int.toNat_natCast, Int.toNat_natCast] at i4
   rw [hib, valOK_iff h3 (by omega)]
   unfold fitP at i4
   omega
theorem incC {s : Src} {k : Int} {c : Cl} (h : validP s k c) : (clL c).Pairwise ltP := by
 obtain ⟨h1, h2, h3⟩ := h
 have step : ∀ j (hj : j + 1 < c.fields.length), c.fields[j] < c.fields[j + 1] := fun j hj => by
   have := (h3 (j + 1) hj).2 (by omega)
   rw [Nat.add_sub_cancel, getD_at hj, getD_at (by omega : j < c.fields.length)] at this
   exact this
 have inc : ∀ d i (hi : i + d + 1 < c.fields.length), c.fields[i] < c.fields[i + d + 1] := by
   intro d
   induction d with
   | zero => intro i hi; exact step i hi
   | succ d ih =>
     intro i hi
     have a := ih i (by omega)
     have b := step (i + d + 1) (by omega)
     have e : i + (d + 1) + 1 = i + d + 1 + 1 := by omega
     simp only [e]
     omega
 rw [List.pairwise_iff_getElem]
 intro i j hi hj hij
 have li : (clL c).length ≤ c.fields.length := by unfold clL; rw [List.length_zip]; omega
 have hfi : i < c.fields.length := by omega
 have hfj : j < c.fields.length := by omega
 have ei : (clL c)[i] = (c.fields[i], c.values[i]'(by omega)) := by simp [clL]
 have ej : (clL c)[j] = (c.fields[j], c.values[j]'(by omega)) := by simp [clL]
 unfold ltP
 rw [ei, ej]
 obtain ⟨d, rfl⟩ : ∃ d, j = i + d + 1 := ⟨j - i - 1, by omega⟩
 exact inc d i hfj
theorem validP_of {s : Src} {k : Int} {l : List (Int × Int)} (hs : l.Pairwise ltP) (hv : ∀ p ∈ l, valOK s k p.1 p.2 = true) : validP s k (clOf k l) := by
 have lf : (clOf k l).fields.length = l.length := by simp [clOf]
 have lv : (clOf k l).values.length = l.length := by simp [clOf]
 refine ⟨rfl, by rw [lf, lv], fun j hj => ?_⟩
 rw [lf] at hj
 have gf : ∀ i, i < l.length → (clOf k l).fields.getD i 0 = (l.getD i (0, 0)).1 := fun i hi => by
   rw [getD_at (by rw [lf]; exact hi), getD_at hi]; simp [clOf]
 have gv : ∀ i, i < l.length → (clOf k l).values.getD i 0 = (l.getD i (0, 0)).2 := fun i hi => by
   rw [getD_at (by rw [lv]; exact hi), getD_at hi]; simp [clOf]
 unfold vP
 rw [gf j hj, gv j hj, getD_at hj]
 refine ⟨hv _ (List.getElem_mem hj), fun h0 => ?_⟩
 rw [gf (j - 1) (by omega), getD_at (by omega : j - 1 < l.length)]
 have := List.pairwise_iff_getElem.1 hs (j - 1) j (by omega) hj (by omega)
 exact this
theorem mem_clL {s : Src} {k : Int} {c : Cl} (h : validP s k c) {p : Int × Int} (hp : p ∈ clL c) : valOK s k p.1 p.2 = true := by
 obtain ⟨i, hi, rfl⟩ := List.getElem_of_mem hp
 have li : (clL c).length = min c.fields.length c.values.length := by unfold clL; rw [List.length_zip]
 have h3 := (h.2.2 i (by omega)).1
 rw [getD_at (by omega : i < c.fields.length), getD_at (by omega : i < c.values.length)] at h3
 have ei : (clL c)[i] = (c.fields[i]'(by omega), c.values[i]'(by omega)) := by simp [clL]
 rw [ei]
 exact h3
theorem fields_range {s : Src} {v : Cv} (h : twoP s v) {c : Cl} (hv : validP s v.a c) : ∀ f ∈ c.fields, 0 ≤ f ∧ f ≤ v.moves.length := by
 intro f hf
 obtain ⟨i, hi, rfl⟩ := List.getElem_of_mem hf
 have h3 := (hv.2.2 i hi).1
 rw [getD_at hi] at h3
 have := cvt_val h h3
 exact ⟨this.1, this.2.1⟩
def cvL (v : Cv) (c : Cl) : List (Int × Int) := insAll ((clL c).map (cvt v.moves))
theorem perfR_yes {s : Src} {v : Cv} (h : twoP s v) {c : Cl} (hv : validP s v.a c) : perfR s v c = (clOf v.b (cvL v c), 0) := by
 unfold perfR cvL
 rw [if_pos hv, prI_map (twoP_good h) hv.2.1 (fields_range h hv) _ (Nat.le_refl _), List.take_of_length_le]
 unfold clL
 rw [List.length_zip]
 exact Nat.min_le_left _ _
theorem perfR_no {s : Src} {v : Cv} {c : Cl} (hv : ¬ validP s v.a c) : perfR s v c = (⟨0, [], []⟩, 150) := if_neg hv
theorem cl_range {s : Src} {v : Cv} (h : twoP s v) {c : Cl} (hv : validP s v.a c) : ∀ p ∈ clL c, 0 ≤ p.1 ∧ p.1 ≤ v.moves.length := fun p hp => by
 have := cvt_val h (mem_clL hv hp)
 exact ⟨this.1, this.2.1⟩
theorem cvL_ne {s : Src} {v : Cv} (h : twoP s v) {c : Cl} (hv : validP s v.a c) : ((clL c).map (cvt v.moves)).Pairwise ne1 := cvt_ne (twoP_good h) (ltP_ne (incC hv)) (cl_range h hv)
theorem cvL_sorted {s : Src} {v : Cv} (h : twoP s v) {c : Cl} (hv : validP s v.a c) : (cvL v c).Pairwise ltP := insAll_sorted (cvL_ne h hv)
theorem mem_cvL {v : Cv} {c : Cl} {p : Int × Int} : p ∈ cvL v c ↔ ∃ q ∈ clL c, cvt v.moves q = p := by
 unfold cvL
 rw [(insAll_perm _).mem_iff, List.mem_map]
theorem cvL_valid {s : Src} {v : Cv} (h : twoP s v) {c : Cl} (hv : validP s v.a c) : validP s v.b (clOf v.b (cvL v c)) := by
 refine validP_of (cvL_sorted h hv) fun p hp => ?_
 obtain ⟨q, hq, rfl⟩ := mem_cvL.1 hp
 exact (cvt_val h (mem_clL hv hq)).2.2
theorem perfR_back {s : Src} {v : Cv} (h : twoP s v) {c : Cl} (hv : validP s v.a c) : perfR s (turnC v) (perfR s v c).1 = (c, 0) := by
 rw [perfR_yes h hv]
 have hvb := cvL_valid h hv
 rw [perfR_yes (v := turnC v) (twoP_turn h) hvb]
 refine Prod.ext ?_ rfl
 show clOf v.a _ = c
 have e : cvL (turnC v) (clOf v.b (cvL v c)) = clL c := by
   unfold cvL
   rw [clL_clOf]
   refine insAll_is (incC hv) ?_
   have hp := (insAll_perm ((clL c).map (cvt v.moves))).map (cvt (turnC v).moves)
   refine List.Perm.symm (hp.trans ?_)
   rw [List.map_map]
   have : (clL c).map (cvt (turnC v).moves ∘ cvt v.moves) = clL c := by
     have : ∀ p ∈ clL c, (cvt (turnC v).moves ∘ cvt v.moves) p = p := fun p hp => by
       have r := cl_range h hv p hp
       exact cvt_turn (twoP_good h) r.1 r.2
     exact (List.map_congr_left this).trans (List.map_id' _)
   rw [this]
 rw [e, ← hv.1]
 exact clOf_clL hv.2.1
theorem perfR_congr {s : Src} {v v' : Cv} (ha : v.a = v'.a) (hb : v.b = v'.b) (hm : v.moves.map (fun m => (m.a, m.b, m.shift)) = v'.moves.map (fun m => (m.a, m.b, m.shift))) (c : Cl) : perfR s v c = perfR s v' c := by
 have hM : ∀ f x, prM v.moves f x = prM v'.moves f x := by
   intro f x
   have g : ∀ mv : List Mv, prM mv f x = ((mv.map (fun m => (m.a, m.b, m.shift))).filter fun t => decide (t.1 = f)).map fun t => (t.2.1, x + t.2.2) := fun mv => by
     unfold prM
     rw [List.filter_map, List.map_map]
     rfl
   rw [g, g, hm]
 have hI : ∀ i, prI v.moves c i = prI v'.moves c i := by
   intro i
   induction i with
   | zero => rfl
   | succ i ih => simp only [prI, ih, hM]
 unfold perfR
 rw [ha, hb, hI]
theorem turn_turn (s : Src) (v : Cv) (c : Cl) : perfR s (turnC (turnC v)) c = perfR s v c := by
 refine perfR_congr (v := turnC (turnC v)) (v' := v) rfl rfl ?_ c
 simp only [turnC, List.map_map]
 refine List.map_congr_left fun m _ => ?_
 simp [trn]
def dirC (back : Bool) (v : Cv) : Cv := if back then turnC v else v
theorem dir_two {s : Src} {v : Cv} (h : twoP s v) (back : Bool) : twoP s (dirC back v) := by
 cases back with
 | true => exact twoP_turn h
 | false => exact h
theorem dir_a (back : Bool) (v : Cv) : (dirC back v).a = cvFrom back v ∧ (dirC back v).b = cvTo back v := by cases back <;> exact ⟨rfl, rfl⟩
theorem pvM_prM (back : Bool) (v : Cv) (f x : Int) : pvM back v.moves f x = prM (dirC back v).moves f x := by
 cases back with
 | false => rfl
 | true =>
   show pvM true v.moves f x = prM (v.moves.map trn) f x
   unfold pvM prM
   rw [List.filter_map, List.map_map]
   rfl
theorem pvI_prI {s : Src} {v : Cv} (h : twoP s v) (back : Bool) (c : Cl) : ∀ i, pvI back v.moves c i = prI (dirC back v).moves c i
 | 0 => rfl
 | i + 1 => by
   rw [pvI, prI, pvI_prI h back c i, pvM_prM]
   congr 1
   split
   · rename_i h0
     rw [h0, prM_zero (twoP_good (dir_two h back))]
     simp [prZ]
   · rename_i h0
     rw [prZ, if_neg h0, List.nil_append]
theorem perform_spec (s : Src) (hs : s.sz) (v : Cv) (h : twoP s v) (back : Bool) (c : Cl) (hf : c.fields.length ≤ 100) (hm : v.moves.length ≤ 100) :
   PSpec Try.prog 34 [.agg (encSrc s), .agg (encCv v), .bool back, .agg (encCl c)] (encCE (perfR s (dirC back v) c)) := by
 have hsh : ∀ m ∈ v.moves, -1000000000 ≤ m.shift ∧ m.shift ≤ 1000000000 := fun m hm => by have := twoP_shift h m hm; omega
 have hI := pvI_prI h back c c.fields.length
 have hd := dir_two h back
 obtain ⟨da, db⟩ := dir_a back v
 have hu : validP s (cvFrom back v) c → ∀ r : List (Int × Int), r.Perm (pvI back v.moves c c.fields.length) → r.Pairwise (fun x y => ¬ ltP y x) → r = insAll (prI (dirC back v).moves c c.fields.length) := fun hv r hp hr => by
   rw [← da] at hv
   rw [hI] at hp
   refine insAll_unique ?_ hp hr
   rw [prI_map (twoP_good hd) hv.2.1 (fields_range hd hv) _ (Nat.le_refl _), List.take_of_length_le (by unfold clL; rw [List.length_zip]; exact Nat.min_le_left _ _)]
   exact cvL_ne hd hv
 have hl : (insAll (prI (dirC back v).moves c c.fields.length)).length = (pvI back v.moves c c.fields.length).length := by rw [insAll_len, hI]
 have he : perfP s v back c (insAll (prI (dirC back v).moves c c.fields.length)) = perfR s (dirC back v) c := by unfold perfP perfR; rw [da, db]
 rw [← he]
 cases back with
 | true => exact perform_true s hs v c hf hm hsh _ hu fun _ => hl
 | false => exact perform_false s hs v c hf hm hsh _ hu fun _ => hl
end Go.Proofs.Ytihbkbioafdhjaa
