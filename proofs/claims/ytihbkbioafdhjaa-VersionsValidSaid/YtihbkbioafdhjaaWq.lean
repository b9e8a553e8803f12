/- Versions: the law VersionsSome. Conditions: none. -/
import Derived.Test.YtihbkbioafdhjaaWd
import Derived.Test.YtihbkbioafdhjaaWp
set_option linter.unusedSimpArgs false
set_option linter.unusedVariables false
set_option maxRecDepth 20000
set_option maxHeartbeats 4000000
namespace Go.Proofs.Ytihbkbioafdhjaa
open Go.Avc
def lessC (c : Cl) (k : Nat) : Cl := ⟨c.schema, c.fields.take k ++ c.fields.drop (k + 1), c.values.take k ++ c.values.drop (k + 1)⟩
theorem clL_less {c : Cl} (hl : c.fields.length = c.values.length) (k : Nat) : clL (lessC c k) = (clL c).eraseIdx k := by
 unfold clL lessC
 simp only
 rw [List.zip_append (by simp [hl]), List.eraseIdx_eq_take_drop_succ, List.zip_eq_zipWith, List.zip_eq_zipWith, List.zip_eq_zipWith, List.take_zipWith, List.drop_zipWith]
theorem less_clOf {c : Cl} (hl : c.fields.length = c.values.length) (k : Nat) : clOf c.schema (clL (lessC c k)) = lessC c k := clOf_clL (c := lessC c k) (by simp [lessC, hl])
theorem less_valid {s : Src} {j : Int} {c : Cl} (h : validP s j c) (k : Nat) : validP s j (lessC c k) := by
 have hc := less_clOf h.2.1 k
 rw [← hc, h.1]
 refine validP_of ?_ fun p hp => mem_clL h ?_
 · rw [clL_less h.2.1]
   exact (incC h).sublist (List.eraseIdx_sublist ..)
 · rw [clL_less h.2.1] at hp
   exact (List.eraseIdx_sublist ..).subset hp
def goneL (mv : List Mv) (f : Int) (i : Nat) : Int := (mv.take i).foldl (fun g m => if m.a = f then m.b else g) 0
theorem gone_next {mv : List Mv} {i : Nat} (h : i < mv.length) (f : Int) : goneL mv f (i + 1) = if mv[i].a = f then mv[i].b else goneL mv f i := by
 unfold goneL
 rw [List.take_succ_eq_append_getElem h, List.foldl_append]
 rfl
theorem gone_fold : ∀ {mv : List Mv} {f g : Int}, (mv.map (·.a)).Nodup → mv.foldl (fun g m => if m.a = f then m.b else g) g = ((mvOf mv f).map (·.b)).getD g
 | [], f, g, _ => rfl
 | m :: mv, f, g, h => by
   rw [List.map_cons, List.nodup_cons] at h
   rw [List.foldl_cons, gone_fold h.2]
   unfold mvOf
   rw [List.find?_cons]
   by_cases e : m.a = f
   · have hn : mv.find? (fun m => decide (m.a = f)) = none := List.find?_eq_none.2 fun x hx => by
       simp only [decide_eq_true_eq]
       intro e'
       exact h.1 (by rw [e, ← e']; exact List.mem_map.2 ⟨x, hx, rfl⟩)
     simp [e, hn]
   · simp [e]
theorem gone_to {mv : List Mv} (h : Good mv) (f : Int) : goneL mv f mv.length = toF mv f := by
 unfold goneL
 rw [List.take_length, gone_fold h.an]
 unfold toF
 split
 · rename_i h0
   have : mvOf mv f = none := List.find?_eq_none.2 fun m hm => by have := (h.a1 m hm).1; simp; omega
   rw [this]; rfl
 · rfl
theorem some_eq {s : Src} {v : Cv} (h : twoP s v) {c : Cl} (hv : validP s v.a c) {k : Nat} (hk : k < c.fields.length) : cvL v (lessC c k) = (cvL v c).filter fun p => decide (p.1 ≠ toF v.moves c.fields[k]) := by
 have hg := twoP_good h
 have hkv : k < c.values.length := by have := hv.2.1; omega
 have hkc : k < (clL c).length := by unfold clL; rw [List.length_zip]; omega
 have hck : (clL c)[k] = (c.fields[k], c.values[k]) := by simp [clL]
 have hfk := cl_range h hv _ (List.getElem_mem hkc)
 rw [hck] at hfk
 refine sorted_uniq ltP_irr ltP_tr (cvL_sorted h (less_valid hv k)) ((cvL_sorted h hv).filter _) fun p => ?_
 rw [mem_cvL, List.mem_filter, mem_cvL, clL_less hv.2.1]
 have hs := incC hv
 have inj : ∀ q ∈ clL c, toF v.moves q.1 = toF v.moves c.fields[k] → q.1 = c.fields[k] := fun q hq e => by
   have r := cl_range h hv q hq
   rw [← (to_turn hg r.1 r.2).1, e, (to_turn hg hfk.1 hfk.2).1]
 constructor
 · rintro ⟨q, hq, rfl⟩
   obtain ⟨i, hi, hik, rfl⟩ := List.mem_eraseIdx_iff_getElem.1 hq
   refine ⟨⟨_, List.getElem_mem hi, rfl⟩, ?_⟩
   simp only [decide_eq_true_eq]
   intro e
   have e' := inj _ (List.getElem_mem hi) e
   have e2 : (clL c)[k].1 = c.fields[k] := by rw [hck]
   rcases Nat.lt_or_gt_of_ne hik with hlt | hlt
   · have := List.pairwise_iff_getElem.1 hs i k hi hkc hlt
     unfold ltP at this
     omega
   · have := List.pairwise_iff_getElem.1 hs k i hkc hi hlt
     unfold ltP at this
     omega
 · rintro ⟨⟨q, hq, rfl⟩, hne⟩
   simp only [decide_eq_true_eq] at hne
   obtain ⟨i, hi, rfl⟩ := List.getElem_of_mem hq
   refine ⟨_, List.mem_eraseIdx_iff_getElem.2 ⟨i, hi, fun e => hne ?_, rfl⟩, rfl⟩
   subst e
   show toF v.moves (clL c)[i].1 = _
   rw [hck]
theorem cut_less {l : List Int} {k n : Nat} (hn : n = ([] ++ cut (l.map fun x => [PV.int x]) 0 ((k : Nat) : Int).toNat).length + (cut (l.map fun x => [PV.int x]) (((k : Nat) : Int) + 1).toNat (l.map fun x => [PV.int x]).length).length) :
   PV.sl 1 (List.take n (List.drop 0 ([] ++ cut (l.map fun x => [PV.int x]) 0 ((k : Nat) : Int).toNat ++ cut (l.map fun x => [PV.int x]) (((k : Nat) : Int) + 1).toNat (l.map fun x => [PV.int x]).length))) = encIs (l.take k ++ l.drop (k + 1)) := by
 have e : (((k : Nat) : Int) + 1).toNat = k + 1 := by omega
 unfold encIs
 congr 1
 rw [List.drop_zero, List.take_of_length_le (by rw [hn, List.length_append]; exact Nat.le_refl _)]
 simp only [cut, e, Int.toNat_natCast, List.drop_zero, Nat.sub_zero, List.nil_append, List.length_map, List.map_append, List.map_take, List.map_drop]
 congr 1
 exact List.take_of_length_le (by simp)
def wantL (l : List (Int × Int)) (g : Int) (i : Nat) : List (Int × Int) := (l.take i).filter fun p => decide (p.1 ≠ g)
theorem want_next {l : List (Int × Int)} {i : Nat} (h : i < l.length) (g : Int) : wantL l g (i + 1) = if l[i].1 = g then wantL l g i else wantL l g i ++ [l[i]] := by
 unfold wantL
 rw [List.take_succ_eq_append_getElem h, List.filter_append]
 by_cases e : l[i].1 = g <;> simp [e]
theorem want_len (l : List (Int × Int)) (g : Int) (i : Nat) : (wantL l g i).length ≤ l.length := by
 unfold wantL
 refine Nat.le_trans (List.length_filter_le _ _) ?_
 rw [List.length_take]; omega
attribute [local irreducible] PSub Wp PSpec Le Need Both
theorem some_law (s : Src) (hs : s.sz) (hg : s.rg) (n : Int) (c : Cl) (h1 : c.fields.length ≤ 140737488355328) (h2 : c.values.length ≤ 140737488355328) (t : Nat) (ht : t < 18446744073709551616) : PSpec Try.prog 6 [.agg (encSrc s), .int n, .agg (encCl c), .val (.int .u64 t)] (.bool true) := by
 have qw := few_spec s hs c h1 h2
 have lF : (c.fields.map fun x => [PV.int x]).length = c.fields.length := List.length_map ..
 have lV : (c.values.map fun x => [PV.int x]).length = c.values.length := List.length_map ..
 by_cases hfw : fewP s c
 case neg =>
   rw [decide_eq_false hfw] at qw
   refine PSpec.of_vc (fun Γ => more8 false Γ.P Γ.fx) (fun Γ => more8_ok) Try.func6 rfl Try.call6 (by simp) ?_
   rintro ⟨P, N, w0, X, β0, fx, y, hy, pk, df⟩ rfl rfl rfl hoff rfl; change y.on = false at hoff
   skip
   refine .inl ⟨_, sane_spec, ?_⟩
   skip
   refine .inl ⟨_, qw, ?_⟩
   skip
   exact PSub.refl _
 rw [decide_eq_true hfw] at qw
 have hw := fewP_few hfw
 obtain ⟨_, _, _, _, hcf, hcv⟩ := hfw
 by_cases h0 : c.fields.length = 0
 · refine PSpec.of_vc (fun Γ => more8 false Γ.P Γ.fx) (fun Γ => more8_ok) Try.func6 rfl Try.call6 (by simp) ?_
   rintro ⟨P, N, w0, X, β0, fx, y, hy, pk, df⟩ rfl rfl rfl hoff rfl; change y.on = false at hoff
   skip
   refine .inl ⟨_, sane_spec, ?_⟩
   skip
   refine .inl ⟨_, qw, ?_⟩
   repeat' ((try conv => whnf); first|(first|refine k3 ?_ ?_|refine k4 ?_ ?_) <;> intro hb <;> (try rw [lM] at hb) <;> try (exfalso; omega)|fail)
   exact PSub.refl _
 have f1 := Forward_spec s hs hg hw n c (by omega)
 by_cases hx0 : (fwdR s n false c).2 = 0
 case neg =>
   obtain ⟨x, hx⟩ : ∃ x, x = fwdR s n false c := ⟨_, rfl⟩
   rw [← hx] at f1 hx0
   refine PSpec.of_vc (fun Γ => more8 false Γ.P Γ.fx) (fun Γ => more8_ok) Try.func6 rfl Try.call6 (by simp) ?_
   rintro ⟨P, N, w0, X, β0, fx, y, hy, pk, df⟩ rfl rfl rfl hoff rfl; change y.on = false at hoff
   skip
   refine .inl ⟨_, sane_spec, ?_⟩
   skip
   refine .inl ⟨_, qw, ?_⟩
   repeat' ((try conv => whnf); first|(first|refine k3 ?_ ?_|refine k4 ?_ ?_) <;> intro hb <;> (try rw [lM] at hb) <;> try (exfalso; omega)|fail)
   refine .inl ⟨_, f1, ?_⟩
   repeat' ((try conv => whnf); first|(first|refine k3 ?_ ?_|refine k4 ?_ ?_) <;> intro hb <;> (try rw [lM] at hb) <;> try (exfalso; omega)|refine aq rfl ?_|fail)
   exact PSub.refl _
 obtain ⟨ha, m, hm, rfl, he, hv⟩ := fwdR_ok hx0
 have h2w := allTwo_at ha hm
 rw [he] at f1
 change PSpec _ _ _ (encCE (perfR s s.converts[m] c)) at f1
 change validP s s.converts[m].a c at hv
 rw [perfR_yes h2w hv] at f1
 obtain ⟨k, hkd⟩ : ∃ k, k = t % c.fields.length := ⟨_, rfl⟩
 have hk : k < c.fields.length := by rw [hkd]; exact Nat.mod_lt _ (by omega)
 have hse := some_eq h2w hv hk
 have hlv := less_valid hv k
 have f2 := Forward_spec s hs hg hw m (lessC c k) (by simp [lessC]; omega)
 rw [fwdR_at ha hm] at f2
 change PSpec _ _ _ (encCE (perfR s s.converts[m] (lessC c k))) at f2
 rw [perfR_yes h2w hlv, hse, ← gone_to (twoP_good h2w)] at f2
 have hcl : (cvL s.converts[m] c).length = c.fields.length := by rw [cvL, insAll_len, List.length_map, clL, List.length_zip]; have := hv.2.1; omega
 obtain ⟨L, hL⟩ : ∃ L, L = cvL s.converts[m] c := ⟨_, rfl⟩
 rw [← hL] at f1 f2 hcl
 have hvl := hv.2.1
 obtain ⟨x, hx⟩ : ∃ x : Cl × Int, x = (clOf s.converts[m].b L, 0) := ⟨_, rfl⟩
 rw [← hx] at f1
 have hx2 : x.2 = 0 := by rw [hx]
 have hxb : x.1.schema = s.converts[m].b := by rw [hx]; rfl
 have lxf : x.1.fields.length = c.fields.length := by rw [hx]; simp [clOf, hcl]
 have lxv : x.1.values.length = c.fields.length := by rw [hx]; simp [clOf, hcl]
 have lXF : (x.1.fields.map fun y => [PV.int y]).length = x.1.fields.length := List.length_map ..
 have lXV : (x.1.values.map fun y => [PV.int y]).length = x.1.values.length := List.length_map ..
 have xf : ∀ i (hi : i < x.1.fields.length) (hl : i < L.length), x.1.fields[i] = L[i].1 := fun i hi hl => by simp only [hx, clOf, List.getElem_map]
 have xv : ∀ i (hi : i < x.1.values.length) (hl : i < L.length), x.1.values[i] = L[i].2 := fun i hi hl => by simp only [hx, clOf, List.getElem_map]
 have lC : (s.converts.map encCv).length = s.converts.length := List.length_map ..
 have hlc := hw.nc
 have mw : IntKind.u64.wrap (c.fields.length : Int) = (c.fields.length : Int) := by rw [wrap_u64] <;> omega
 have mt : ((t : Int).tmod (c.fields.length : Int)) = (k : Int) := by rw [hkd]; rfl
 have mk : IntKind.i64.wrap ((k : Nat) : Int) = (k : Int) := by rw [IntKind.wrap_i64]; omega
 refine PSpec.of_vc (fun Γ => more8 false Γ.P Γ.fx) (fun Γ => more8_ok) Try.func6 rfl Try.call6 (by simp) ?_
 rintro ⟨P, N, w0, X, β0, fx, y, hy, pk, df⟩ rfl rfl rfl hoff rfl; change y.on = false at hoff
 skip
 refine .inl ⟨_, sane_spec, ?_⟩
 skip
 refine .inl ⟨_, qw, ?_⟩
 repeat' ((try conv => whnf); first|(first|refine k3 ?_ ?_|refine k4 ?_ ?_) <;> intro hb <;> (try rw [lM] at hb) <;> try (exfalso; omega)|fail)
 refine .inl ⟨_, f1, ?_⟩
 repeat' ((try conv => whnf); first|(first|refine k3 ?_ ?_|refine k4 ?_ ?_) <;> intro hb <;> (try rw [lM] at hb) <;> try (exfalso; omega)|refine aq rfl ?_|fail)
 refine ⟨(c.fields.length : Int), by rw [lF]; exact mw, ?_⟩
 repeat' ((try conv => whnf); first|refine aq bd ?_|fail)
 refine ⟨_, mt, ?_⟩
 repeat' ((try conv => whnf); first|refine s4 nm ?_|fail)
 refine Wp.draw (more := more8 true _ _) more8_det more8_ok FOK.wide rfl (by decide +kernel) (by conv => lhs; reduce) ?_
 repeat' ((try conv => whnf); first|refine aq rfl ?_|refine s4 nm ?_|refine aq bd ?_|fail)
 refine .inl ⟨_, PSpec.args f2 ?_, ?_⟩
 · exact ⟨PSub.refl _, PSub.refl _, PSub.agg ⟨PSub.refl _, PSub.of_eq (cut_less (by rfl)), PSub.of_eq (cut_less (by rfl)), trivial⟩, trivial⟩
 repeat' ((try conv => whnf); first|refine aq rfl ?_|fail)
 refine Wp.loop (fun i : Nat => ⟨[(1, .int m), (4, .loc 4 0 0), (6, .loc 6 0 0), (9, .loc 9 0 0), (11, .int k), (13, .loc 13 0 0), (14, .int 0), (15, .int (goneL s.converts[m].moves c.fields[k] i)), (16, .int i)],
   [(4, some (.box (pures (encSrc s)))), (6, some (.box (pures (encCl c)))), (9, some (.box (pures (encCl x.1)))), (13, some (.box (pures (encCl (clOf s.converts[m].b (L.filter fun p => decide (p.1 ≠ goneL s.converts[m].moves c.fields[k] s.converts[m].moves.length)))))))], [4, 6, 9, 13]⟩)
   (fun i => i ≤ s.converts[m].moves.length) (fun i => s.converts[m].moves.length - i) 0 (Le.of ?_ ?_ rfl rfl rfl) (by omega) ?_
 · (repeat' (first|exact trivial|refine aq ?_ ?_|exact oq|fail))
 · (repeat' (first|exact trivial|refine aq ?_ ?_|refine Exists.intro _ (aq rfl ?_)|exact oq|fail))
 intro i hi
 have lM : (s.converts[m].moves.map encMv).length = s.converts[m].moves.length := List.length_map ..
 have hml := hw.nm _ (List.getElem_mem hm)
 by_cases hi2 : i < s.converts[m].moves.length
 · have hgn := gone_next hi2 c.fields[k]
   by_cases hma : s.converts[m].moves[i].a = c.fields[k]
   · rw [if_pos hma] at hgn
     refine code_sound (more := more8 false _ _) more8_ok FOK.wide _ ?_
     repeat' ((try conv => whnf); first|(first|refine k3 ?_ ?_|refine k4 ?_ ?_) <;> intro hb <;> (try rw [lM] at hb) <;> try (exfalso; omega)|refine s5 nm nm ?_|fail)
     refine Wp.draw (more := more8 true _ _) more8_det more8_ok FOK.wide rfl (by decide +kernel) (by conv => lhs; reduce) ?_
     repeat' ((try conv => whnf); first|(first|refine k3 ?_ ?_|refine k4 ?_ ?_) <;> intro hb <;> (try rw [lM] at hb) <;> try (exfalso; omega)|refine s4 nm ?_|refine s5 nm nm ?_|fail)
     refine ⟨i + 1, Le.of ?_ (by (repeat' (first|exact trivial|refine aq ?_ ?_|refine Exists.intro _ (aq rfl ?_)|exact oq|fail))) rfl rfl rfl, by omega, by omega⟩
     rw [hgn]
     (repeat' (first|exact trivial|refine aq ?_ ?_|exact oq|fail))
   · rw [if_neg hma] at hgn
     refine code_sound (more := more8 false _ _) more8_ok FOK.wide _ ?_
     repeat' ((try conv => whnf); first|(first|refine k3 ?_ ?_|refine k4 ?_ ?_) <;> intro hb <;> (try rw [lM] at hb) <;> try (exfalso; omega)|refine s5 nm nm ?_|fail)
     refine Wp.draw (more := more8 true _ _) more8_det more8_ok FOK.wide rfl (by decide +kernel) (by conv => lhs; reduce) ?_
     repeat' ((try conv => whnf); first|(first|refine k3 ?_ ?_|refine k4 ?_ ?_) <;> intro hb <;> (try rw [lM] at hb) <;> try (exfalso; omega)|refine s4 nm ?_|refine s5 nm nm ?_|fail)
     refine ⟨i + 1, Le.of ?_ (by (repeat' (first|exact trivial|refine aq ?_ ?_|refine Exists.intro _ (aq rfl ?_)|exact oq|fail))) rfl rfl rfl, by omega, by omega⟩
     rw [hgn]
     (repeat' (first|exact trivial|refine aq ?_ ?_|exact oq|fail))
 · have e : i = s.converts[m].moves.length := by omega
   subst e
   obtain ⟨g, hgd⟩ : ∃ g, g = goneL s.converts[m].moves c.fields[k] s.converts[m].moves.length := ⟨_, rfl⟩
   rw [← hgd]
   obtain ⟨z, hz⟩ : ∃ z, z = clOf s.converts[m].b (L.filter fun p => decide (p.1 ≠ g)) := ⟨_, rfl⟩
   rw [← hz]
   have hzl : z.fields.length ≤ 20 ∧ z.values.length ≤ 20 := by
     have h := List.length_filter_le (fun p : Int × Int => decide (p.1 ≠ g)) L
     constructor
     · rw [hz]; simp only [clOf, List.length_map]; omega
     · rw [hz]; simp only [clOf, List.length_map]; omega
   have ss := same_self z (by omega) (by omega)
   have hzw : z = clOf s.converts[m].b (wantL L g L.length) := by rw [hz]; unfold wantL; rw [List.take_length]
   refine code_sound (more := more8 false _ _) more8_ok FOK.wide _ ?_
   repeat' ((try conv => whnf); first|(first|refine k3 ?_ ?_|refine k4 ?_ ?_) <;> intro hb <;> (try rw [lM] at hb) <;> try (exfalso; omega)|refine aq rfl ?_|refine s5 nm nm ?_|fail)
   refine Wp.loop (fun i : Nat => ⟨[(9, .loc 9 0 0), (13, .loc 13 0 0), (14, .int 0), (15, .int g), (17, .loc 17 0 0), (18, .int i)],
     [(9, some (.box (pures (encCl x.1)))), (13, some (.box (pures (encCl z)))), (17, some (.box [.int x.1.schema, .lsl 300 0 (wantL L g i).length, .lsl 301 0 (wantL L g i).length])), (300, some (.row 1 (ints ((wantL L g i).map (·.1))))), (301, some (.row 1 (ints ((wantL L g i).map (·.2)))))], [9, 13, 17, 300, 301]⟩)
     (fun i => i ≤ L.length) (fun i => L.length - i) 0
     (Le.trans (Le.virt (k := 300) (sz := 1) rfl rfl (by omega)) (Le.trans (Le.virt (k := 301) (sz := 1) rfl rfl (by omega)) (Le.of ?_ ?_ rfl rfl rfl))) (by omega) ?_
   · (repeat' (first|exact trivial|refine aq ?_ ?_|exact oq|fail))
   · (repeat' (first|exact trivial|exact rfl|refine aq ?_ ?_|refine Exists.intro _ (aq rfl ?_)|exact oq|exact l6 rfl|fail))
   intro i hi
   have hwl := want_len L g i
   have lo1 : (ints ((wantL L g i).map (·.1))).length = (wantL L g i).length := by simp [ints]
   have lo2 : (ints ((wantL L g i).map (·.2))).length = (wantL L g i).length := by simp [ints]
   by_cases hi2 : i < L.length
   · have hwn := want_next hi2 g
     have e1 := xf i (by omega) hi2
     have e2 := xv i (by omega) hi2
     by_cases hfg : x.1.fields[i]'(by omega) = g
     · rw [e1] at hfg
       rw [if_pos hfg] at hwn
       rw [← e1] at hfg
       refine code_sound (more := more8 false _ _) more8_ok FOK.wide _ ?_
       repeat' ((try conv => whnf); first|(first|refine k3 ?_ ?_|refine k4 ?_ ?_) <;> intro hb <;> (try rw [lM] at hb) <;> try (exfalso; omega)|refine s4 nm ?_|refine s5 nm nm ?_|fail)
       refine ⟨i + 1, Le.of (by (repeat' (first|exact trivial|refine aq ?_ ?_|exact oq|fail))) ?_ rfl rfl rfl, by omega, by omega⟩
       rw [hwn]
       (repeat' (first|exact trivial|exact rfl|refine aq ?_ ?_|refine Exists.intro _ (aq rfl ?_)|exact oq|fail))
     · rw [e1] at hfg
       rw [if_neg hfg] at hwn
       rw [← e1] at hfg
       refine code_sound (more := more8 false _ _) more8_ok FOK.wide _ ?_
       repeat' ((try conv => whnf); first|(first|refine k3 ?_ ?_|refine k4 ?_ ?_) <;> intro hb <;> (try rw [lM] at hb) <;> try (exfalso; omega)|refine s5 nm nm ?_|fail)
       refine Wp.draw (more := more8 true _ _) more8_det more8_ok FOK.wide rfl (by decide +kernel) (by conv => lhs; reduce) ?_
       repeat' ((try conv => whnf); first|refine aq rfl ?_|refine s5 nm nm ?_|refine aq bd ?_|fail)
       refine Wp.draw (more := more8 true _ _) more8_det more8_ok FOK.wide rfl (by decide +kernel) (by conv => lhs; reduce) ?_
       repeat' ((try conv => whnf); first|refine aq rfl ?_|refine s4 nm ?_|refine s5 nm nm ?_|refine aq bd ?_|fail)
       refine ⟨i + 1, Le.map [(300, 179), (301, 189)] ?_ ?_ rfl rfl rfl rfl, by omega, by omega⟩
       · rw [hwn]
         (repeat' (first|exact trivial|refine aq ?_ ?_|exact oq|fail))
         all_goals first
           | (refine SubA.lsl ?_; focus (simp [ints]; done))
           | (refine rowEq ?_; focus (simp [ints, e1, e2]; done))
       · rw [hwn]
         (repeat' (first|exact trivial|refine aq ?_ ?_|refine Exists.intro _ (aq rfl ?_)|exact oq|exact SubA.lsl ls|fail))
         all_goals first
           | (refine SubA.lsl ?_; focus (simp [ints]; done))
           | (refine rowEq ?_; focus (simp [ints, e1, e2]; done))
   · have e : i = L.length := by omega
     subst e
     refine code_sound (more := more8 false _ _) more8_ok FOK.wide _ ?_
     repeat' ((try conv => whnf); first|(first|refine k3 ?_ ?_|refine k4 ?_ ?_) <;> intro hb <;> (try rw [lM] at hb) <;> try (exfalso; omega)|fail)
     refine .inl ⟨_, PSpec.args ss ?_, ?_⟩
     · have z0 : x.1.schema = z.schema := by rw [hxb, hz]; rfl
       have z1 : PV.sl 1 (List.take (wantL L g L.length).length (List.drop 0 (ints ((wantL L g L.length).map (·.1))))) = encIs z.fields := by
         rw [List.drop_zero, List.take_of_length_le (by rw [lo1]; exact Nat.le_refl _), hzw]; rfl
       have z2 : PV.sl 1 (List.take (wantL L g L.length).length (List.drop 0 (ints ((wantL L g L.length).map (·.2))))) = encIs z.values := by
         rw [List.drop_zero, List.take_of_length_le (by rw [lo2]; exact Nat.le_refl _), hzw]; rfl
       exact ⟨PSub.refl _, PSub.agg ⟨PSub.of_eq (by rw [z0]), PSub.of_eq z1, PSub.of_eq z2, trivial⟩, trivial⟩
     skip
     exact PSub.refl _
end Go.Proofs.Ytihbkbioafdhjaa
