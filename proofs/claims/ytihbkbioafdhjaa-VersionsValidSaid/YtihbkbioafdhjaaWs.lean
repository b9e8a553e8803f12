/- Versions: the law VersionsValid. Conditions: none. -/
import Derived.Test.YtihbkbioafdhjaaWd
import Derived.Test.YtihbkbioafdhjaaWr
set_option linter.unusedSimpArgs false
set_option linter.unusedVariables false
set_option maxRecDepth 20000
set_option maxHeartbeats 4000000
namespace Go.Proofs.Ytihbkbioafdhjaa
open Go.Avc
def shL (mv : List Mv) (f : Int) (i : Nat) : Int := (mv.take i).foldl (fun g m => if m.a = f then m.shift else g) 0
theorem sh_next {mv : List Mv} {i : Nat} (h : i < mv.length) (f : Int) : shL mv f (i + 1) = if mv[i].a = f then mv[i].shift else shL mv f i := by
 unfold shL
 rw [List.take_succ_eq_append_getElem h, List.foldl_append]
 rfl
theorem sh_fold : ∀ {mv : List Mv} {f g : Int}, (mv.map (·.a)).Nodup → mv.foldl (fun g m => if m.a = f then m.shift else g) g = ((mvOf mv f).map (·.shift)).getD g
 | [], f, g, _ => rfl
 | m :: mv, f, g, h => by
   rw [List.map_cons, List.nodup_cons] at h
   rw [List.foldl_cons, sh_fold h.2]
   unfold mvOf
   rw [List.find?_cons]
   by_cases e : m.a = f
   · have hn : mv.find? (fun m => decide (m.a = f)) = none := List.find?_eq_none.2 fun x hx => by
       simp only [decide_eq_true_eq]
       intro e'
       exact h.1 (by rw [e, ← e']; exact List.mem_map.2 ⟨x, hx, rfl⟩)
     simp [e, hn]
   · simp [e]
theorem sh_to {mv : List Mv} (h : Good mv) (f : Int) : shL mv f mv.length = shF mv f := by
 unfold shL
 rw [List.take_length, sh_fold h.an]
 unfold shF
 split
 · rename_i h0
   have : mvOf mv f = none := List.find?_eq_none.2 fun m hm => by have := (h.a1 m hm).1; simp; omega
   rw [this]; rfl
 · rfl
theorem sh_small {mv : List Mv} (h : ∀ m ∈ mv, -1048576 ≤ m.shift ∧ m.shift ≤ 1048576) (f : Int) : ∀ i, i ≤ mv.length → -1048576 ≤ shL mv f i ∧ shL mv f i ≤ 1048576
 | 0, _ => by simp [shL]
 | i + 1, hi => by
   have h1 : i < mv.length := by omega
   rw [sh_next h1]
   split
   · exact h _ (List.getElem_mem h1)
   · exact sh_small h f i (by omega)
def metB (L : List (Int × Int)) (a b v : Int) (k : Nat) : Bool := (L.take k).any fun p => decide (p.1 = a ∧ p.2 - b = v)
theorem met_next {L : List (Int × Int)} {k : Nat} (h : k < L.length) (a b v : Int) : metB L a b v (k + 1) = (metB L a b v k || decide (L[k].1 = a ∧ L[k].2 - b = v)) := by
 unfold metB
 rw [List.take_succ_eq_append_getElem h, List.any_append]
 simp
theorem met_all {L : List (Int × Int)} {a b v : Int} (h : (a, v + b) ∈ L) : metB L a b v L.length = true := by
 unfold metB
 rw [List.take_length]
 refine List.any_eq_true.2 ⟨_, h, decide_eq_true ⟨rfl, ?_⟩⟩
 show v + b - b = v
 omega
attribute [local irreducible] PSub Wp PSpec Le Need Both
theorem valid_law (s : Src) (hs : s.sz) (hg : s.rg) (n : Int) (c : Cl) (h1 : c.fields.length ≤ 140737488355328) (h2 : c.values.length ≤ 140737488355328) : PSpec Try.prog 8 [.agg (encSrc s), .int n, .agg (encCl c)] (.bool true) := by
 have qw := few_spec s hs c h1 h2
 have lF : (c.fields.map fun x => [PV.int x]).length = c.fields.length := List.length_map ..
 have lV : (c.values.map fun x => [PV.int x]).length = c.values.length := List.length_map ..
 by_cases hfw : fewP s c
 case neg =>
   rw [decide_eq_false hfw] at qw
   refine PSpec.of_vc (fun Γ => more8 false Γ.P Γ.fx) (fun Γ => more8_ok) Try.func8 rfl Try.call8 (by simp) ?_
   rintro ⟨P, N, w0, X, β0, fx, y, hy, pk, df⟩ rfl rfl rfl hoff rfl; change y.on = false at hoff
   skip
   refine .inl ⟨_, sane_spec, ?_⟩
   skip
   refine .inl ⟨_, qw, ?_⟩
   skip
   exact PSub.refl _
 rw [decide_eq_true hfw] at qw
 have hw := fewP_few hfw
 obtain ⟨_, _, _, _, hcf, hcv⟩ := hfw
 have f1 := Forward_spec s hs hg hw n c (by omega)
 by_cases hx0 : (fwdR s n false c).2 = 0
 case neg =>
   obtain ⟨x, hx⟩ : ∃ x, x = fwdR s n false c := ⟨_, rfl⟩
   rw [← hx] at f1 hx0
   refine PSpec.of_vc (fun Γ => more8 false Γ.P Γ.fx) (fun Γ => more8_ok) Try.func8 rfl Try.call8 (by simp) ?_
   rintro ⟨P, N, w0, X, β0, fx, y, hy, pk, df⟩ rfl rfl rfl hoff rfl; change y.on = false at hoff
   skip
   refine .inl ⟨_, sane_spec, ?_⟩
   skip
   refine .inl ⟨_, qw, ?_⟩
   skip
   refine .inl ⟨_, f1, ?_⟩
   repeat' ((try conv => whnf); first|(first|refine k3 ?_ ?_|refine k4 ?_ ?_) <;> intro hb <;> (try rw [lM] at hb) <;> try (exfalso; omega)|refine aq rfl ?_|fail)
   exact PSub.refl _
 obtain ⟨ha, m, hm, rfl, he, hv⟩ := fwdR_ok hx0
 have h2w := allTwo_at ha hm
 rw [he] at f1
 change PSpec _ _ _ (encCE (perfR s s.converts[m] c)) at f1
 change validP s s.converts[m].a c at hv
 rw [perfR_yes h2w hv] at f1
 have hvx := cvL_valid h2w hv
 have hsx := cvL_sorted h2w hv
 have hcl : (cvL s.converts[m] c).length = c.fields.length := by rw [cvL, insAll_len, List.length_map, clL, List.length_zip]; have := hv.2.1; omega
 have hval : ∀ p ∈ cvL s.converts[m] c, valOK s s.converts[m].b p.1 p.2 = true := fun p hp => by
   have := mem_clL hvx (p := p) (by rw [clL_clOf]; exact hp)
   exact this
 have hmem : ∀ i (hi : i < c.fields.length) (hi' : i < c.values.length), (toF s.converts[m].moves c.fields[i], c.values[i] + shF s.converts[m].moves c.fields[i]) ∈ cvL s.converts[m] c := fun i hi hi' => mem_cvL.2 ⟨(c.fields[i], c.values[i]), List.mem_of_getElem? (clL_at hi hi'), rfl⟩
 have hgood := twoP_good h2w
 have hsm := twoP_shift h2w
 have hcsm : ∀ i (hi : i < c.fields.length) (hi' : i < c.values.length), 0 ≤ c.values[i] ∧ c.values[i] ≤ 1048576 := fun i hi hi' => by
   have := (hv.2.2 i hi).1
   rw [getD_at hi, getD_at hi'] at this
   exact valOK_small this
 obtain ⟨L, hL⟩ : ∃ L, L = cvL s.converts[m] c := ⟨_, rfl⟩
 rw [← hL] at f1 hcl hsx hval hmem
 have hvl := hv.2.1
 obtain ⟨x, hx⟩ : ∃ x : Cl × Int, x = (clOf s.converts[m].b L, 0) := ⟨_, rfl⟩
 rw [← hx] at f1
 have hx2 : x.2 = 0 := by rw [hx]
 have hxb : x.1.schema = s.converts[m].b := by rw [hx]; rfl
 have lxf : x.1.fields.length = c.fields.length := by rw [hx]; simp [clOf, hcl]
 have lxv : x.1.values.length = c.fields.length := by rw [hx]; simp [clOf, hcl]
 have lXF : (x.1.fields.map fun y => [PV.int y]).length = x.1.fields.length := List.length_map ..
 have lXV : (x.1.values.map fun y => [PV.int y]).length = x.1.values.length := List.length_map ..
 have xf : ∀ i (hi : i < x.1.fields.length) (hl : i < L.length), x.1.fields[i] = L[i].1 := fun i hi hl => by simp only [hx, clOf, List.getElem_map]
 have xv : ∀ i (hi : i < x.1.values.length) (hl : i < L.length), x.1.values[i] = L[i].2 := fun i hi hl => by simp only [hx, clOf, List.getElem_map]
 have lC : (s.converts.map encCv).length = s.converts.length := List.length_map ..
 have hlc := hw.nc
 have lM : (s.converts[m].moves.map encMv).length = s.converts[m].moves.length := List.length_map ..
 have hml := hw.nm _ (List.getElem_mem hm)
 refine PSpec.of_vc (fun Γ => more8 false Γ.P Γ.fx) (fun Γ => more8_ok) Try.func8 rfl Try.call8 (by simp) ?_
 rintro ⟨P, N, w0, X, β0, fx, y, hy, pk, df⟩ rfl rfl rfl hoff rfl; change y.on = false at hoff
 skip
 refine .inl ⟨_, sane_spec, ?_⟩
 skip
 refine .inl ⟨_, qw, ?_⟩
 skip
 refine .inl ⟨_, f1, ?_⟩
 repeat' ((try conv => whnf); first|(first|refine k3 ?_ ?_|refine k4 ?_ ?_) <;> intro hb <;> (try rw [lM] at hb) <;> try (exfalso; omega)|refine aq rfl ?_|fail)
 refine Wp.draw (more := more8 true _ _) more8_det more8_ok FOK.wide rfl (by decide +kernel) (by conv => lhs; reduce) ?_
 repeat' ((try conv => whnf); first|(first|refine k3 ?_ ?_|refine k4 ?_ ?_) <;> intro hb <;> (try rw [lM] at hb) <;> try (exfalso; omega)|refine s5 nm nm ?_|fail)
 refine Wp.loop (fun i : Nat => ⟨[(1, .int m), (3, .loc 3 0 0), (5, .loc 5 0 0), (7, .loc 7 0 0), (9, .int i)], [(3, some (.box (pures (encSrc s)))), (5, some (.box (pures (encCl c)))), (7, some (.box (pures (encCl x.1))))], [3, 5, 7]⟩) (fun i => i ≤ c.fields.length) (fun i => c.fields.length - i) 0 (Le.of ?_ ?_ rfl rfl rfl) (by omega) ?_
 · (repeat' (first|exact trivial|refine aq ?_ ?_|exact oq|fail))
 · (repeat' (first|exact trivial|refine aq ?_ ?_|refine Exists.intro _ (aq rfl ?_)|exact oq|fail))
 intro i hi
 by_cases hi2 : i < c.fields.length
 · have hif : i < x.1.fields.length := by omega
   have hiv : i < x.1.values.length := by omega
   have q := value_spec s hs x.1.schema x.1.fields[i] x.1.values[i]
   rw [xf i hif (by omega), xv i hiv (by omega), hxb, hval _ (List.getElem_mem (by omega : i < L.length)), ← xf i hif (by omega), ← xv i hiv (by omega), ← hxb] at q
   by_cases h0 : i = 0
   · subst h0
     refine code_sound (more := more8 false _ _) more8_ok FOK.wide _ ?_
     repeat' ((try conv => whnf); first|(first|refine k3 ?_ ?_|refine k4 ?_ ?_) <;> intro hb <;> (try rw [lM] at hb) <;> try (exfalso; omega)|fail)
     refine Wp.draw (more := more8 true _ _) more8_det more8_ok FOK.wide rfl (by decide +kernel) (by conv => lhs; reduce) ?_
     repeat' ((try conv => whnf); first|refine s5 nm nm ?_|fail)
     refine ⟨_, q, ?_⟩
     repeat' ((try conv => whnf); first|refine s4 nm ?_|fail)
     exact ⟨0 + 1, Le.of (by (repeat' (first|exact trivial|refine aq ?_ ?_|exact oq|fail))) (by (repeat' (first|exact trivial|refine aq ?_ ?_|refine Exists.intro _ (aq rfl ?_)|exact oq|fail))) rfl rfl rfl, by omega, by omega⟩
   · have hi0 : 0 < i := by omega
     have ew : IntKind.i64.wrap ((i : Int) - 1) = (i : Int) - 1 := by rw [IntKind.wrap_i64]; omega
     have en : ((i : Int) - 1).toNat = i - 1 := by omega
     have hpt : ((i : Int) - 1).toNat < x.1.fields.length := by omega
     have hlt : x.1.fields[((i : Int) - 1).toNat] < x.1.fields[i] := by
       have := List.pairwise_iff_getElem.1 hsx (i - 1) i (by omega) (by omega) (by omega)
       unfold ltP at this
       rw [xf i hif (by omega), xf _ hpt (by omega)]
       simp only [en]
       exact this
     refine code_sound (more := more8 false _ _) more8_ok FOK.wide _ ?_
     repeat' ((try conv => whnf); first|(first|refine k3 ?_ ?_|refine k4 ?_ ?_) <;> intro hb <;> (try rw [lM] at hb) <;> try (exfalso; omega)|fail)
     refine Wp.draw (more := more8 true _ _) more8_det more8_ok FOK.wide rfl (by decide +kernel) (by conv => lhs; reduce) ?_
     repeat' ((try conv => whnf); first|(first|refine k3 ?_ ?_|refine k4 ?_ ?_) <;> intro hb <;> (try rw [lM] at hb) <;> try (exfalso; omega)|refine s4 nm ?_|refine s5 nm nm ?_|refine s6 nm nm ?_|fail)
     refine ⟨_, q, ?_⟩
     repeat' ((try conv => whnf); first|refine s4 nm ?_|fail)
     exact ⟨i + 1, Le.of (by (repeat' (first|exact trivial|refine aq ?_ ?_|exact oq|fail))) (by (repeat' (first|exact trivial|refine aq ?_ ?_|refine Exists.intro _ (aq rfl ?_)|exact oq|fail))) rfl rfl rfl, by omega, by omega⟩
 · have e : i = c.fields.length := by omega
   subst e
   refine code_sound (more := more8 false _ _) more8_ok FOK.wide _ ?_
   repeat' ((try conv => whnf); first|(first|refine k3 ?_ ?_|refine k4 ?_ ?_) <;> intro hb <;> (try rw [lM] at hb) <;> try (exfalso; omega)|fail)
   refine Wp.loop (fun i : Nat => ⟨[(1, .int m), (3, .loc 3 0 0), (5, .loc 5 0 0), (7, .loc 7 0 0), (10, .int i)], [(3, some (.box (pures (encSrc s)))), (5, some (.box (pures (encCl c)))), (7, some (.box (pures (encCl x.1))))], [3, 5, 7]⟩) (fun i => i ≤ c.fields.length) (fun i => c.fields.length - i) 0 (Le.of ?_ ?_ rfl rfl rfl) (by omega) ?_
   · (repeat' (first|exact trivial|refine aq ?_ ?_|exact oq|fail))
   · (repeat' (first|exact trivial|refine aq ?_ ?_|refine Exists.intro _ (aq rfl ?_)|exact oq|fail))
   intro i hi
   by_cases hi2 : i < c.fields.length
   · have hiv : i < c.values.length := by omega
     have hmi := hmem i hi2 hiv
     rw [← gone_to hgood, ← sh_to hgood] at hmi
     have hmet := met_all hmi
     obtain ⟨v1, v2⟩ := hcsm i hi2 hiv
     refine code_sound (more := more8 false _ _) more8_ok FOK.wide _ ?_
     repeat' ((try conv => whnf); first|(first|refine k3 ?_ ?_|refine k4 ?_ ?_) <;> intro hb <;> (try rw [lM] at hb) <;> try (exfalso; omega)|fail)
     refine Wp.loop (fun j : Nat => ⟨[(1, .int m), (3, .loc 3 0 0), (5, .loc 5 0 0), (7, .loc 7 0 0), (10, .int i), (11, .int (goneL s.converts[m].moves c.fields[i] j)), (12, .int (shL s.converts[m].moves c.fields[i] j)), (13, .int j)], [(3, some (.box (pures (encSrc s)))), (5, some (.box (pures (encCl c)))), (7, some (.box (pures (encCl x.1))))], [3, 5, 7]⟩) (fun j => j ≤ s.converts[m].moves.length) (fun j => s.converts[m].moves.length - j) 0 (Le.of ?_ ?_ rfl rfl rfl) (by omega) ?_
     · (repeat' (first|exact trivial|refine aq ?_ ?_|exact oq|fail))
     · (repeat' (first|exact trivial|refine aq ?_ ?_|refine Exists.intro _ (aq rfl ?_)|exact oq|fail))
     intro j hj
     by_cases hj2 : j < s.converts[m].moves.length
     · have hgn := gone_next hj2 c.fields[i]
       have hsn := sh_next hj2 c.fields[i]
       by_cases hma : s.converts[m].moves[j].a = c.fields[i]
       · rw [if_pos hma] at hgn hsn
         refine code_sound (more := more8 false _ _) more8_ok FOK.wide _ ?_
         repeat' ((try conv => whnf); first|(first|refine k3 ?_ ?_|refine k4 ?_ ?_) <;> intro hb <;> (try rw [lM] at hb) <;> try (exfalso; omega)|refine aq rfl ?_|refine s5 nm nm ?_|fail)
         refine Wp.draw (more := more8 true _ _) more8_det more8_ok FOK.wide rfl (by decide +kernel) (by conv => lhs; reduce) ?_
         repeat' ((try conv => whnf); first|(first|refine k3 ?_ ?_|refine k4 ?_ ?_) <;> intro hb <;> (try rw [lM] at hb) <;> try (exfalso; omega)|refine s5 nm nm ?_|fail)
         refine Wp.draw (more := more8 true _ _) more8_det more8_ok FOK.wide rfl (by decide +kernel) (by conv => lhs; reduce) ?_
         repeat' ((try conv => whnf); first|refine s4 nm ?_|fail)
         refine ⟨j + 1, Le.of ?_ (by (repeat' (first|exact trivial|refine aq ?_ ?_|refine Exists.intro _ (aq rfl ?_)|exact oq|fail))) rfl rfl rfl, by omega, by omega⟩
         rw [hgn, hsn]
         (repeat' (first|exact trivial|refine aq ?_ ?_|exact oq|fail))
       · rw [if_neg hma] at hgn hsn
         refine code_sound (more := more8 false _ _) more8_ok FOK.wide _ ?_
         repeat' ((try conv => whnf); first|(first|refine k3 ?_ ?_|refine k4 ?_ ?_) <;> intro hb <;> (try rw [lM] at hb) <;> try (exfalso; omega)|refine aq rfl ?_|refine s5 nm nm ?_|fail)
         refine Wp.draw (more := more8 true _ _) more8_det more8_ok FOK.wide rfl (by decide +kernel) (by conv => lhs; reduce) ?_
         repeat' ((try conv => whnf); first|(first|refine k3 ?_ ?_|refine k4 ?_ ?_) <;> intro hb <;> (try rw [lM] at hb) <;> try (exfalso; omega)|refine s4 nm ?_|refine s5 nm nm ?_|fail)
         refine ⟨j + 1, Le.of ?_ (by (repeat' (first|exact trivial|refine aq ?_ ?_|refine Exists.intro _ (aq rfl ?_)|exact oq|fail))) rfl rfl rfl, by omega, by omega⟩
         rw [hgn, hsn]
         (repeat' (first|exact trivial|refine aq ?_ ?_|exact oq|fail))
     · have e : j = s.converts[m].moves.length := by omega
       subst e
       have hss := sh_small hsm c.fields[i] _ (Nat.le_refl _)
       obtain ⟨to, hto⟩ : ∃ to, to = goneL s.converts[m].moves c.fields[i] s.converts[m].moves.length := ⟨_, rfl⟩
       obtain ⟨sh, hsh⟩ : ∃ sh, sh = shL s.converts[m].moves c.fields[i] s.converts[m].moves.length := ⟨_, rfl⟩
       rw [← hto, ← hsh] at hmet
       rw [← hsh] at hss
       rw [← hto, ← hsh]
       refine code_sound (more := more8 false _ _) more8_ok FOK.wide _ ?_
       repeat' ((try conv => whnf); first|(first|refine k3 ?_ ?_|refine k4 ?_ ?_) <;> intro hb <;> (try rw [lM] at hb) <;> try (exfalso; omega)|refine s5 nm nm ?_|fail)
       refine Wp.loop (fun k : Nat => ⟨[(1, .int m), (3, .loc 3 0 0), (5, .loc 5 0 0), (7, .loc 7 0 0), (10, .int i), (11, .int to), (12, .int sh), (15, .bool (metB L to sh c.values[i] k)), (16, .int k)], [(3, some (.box (pures (encSrc s)))), (5, some (.box (pures (encCl c)))), (7, some (.box (pures (encCl x.1))))], [3, 5, 7]⟩) (fun k => k ≤ L.length) (fun k => L.length - k) 0 (Le.of ?_ ?_ rfl rfl rfl) (by omega) ?_
       · (repeat' (first|exact trivial|refine aq ?_ ?_|exact oq|fail))
       · (repeat' (first|exact trivial|refine aq ?_ ?_|refine Exists.intro _ (aq rfl ?_)|exact oq|fail))
       intro k hk
       by_cases hk2 : k < L.length
       · have hkf : k < x.1.fields.length := by omega
         have hkv : k < x.1.values.length := by omega
         have hnx := met_next hk2 to sh c.values[i]
         have e1 := xf k hkf hk2
         have e2 := xv k hkv hk2
         have hsv := valOK_small (hval _ (List.getElem_mem hk2))
         rw [← e2] at hsv
         rw [← e1, ← e2] at hnx
         obtain ⟨mb, hmb⟩ : ∃ mb, mb = metB L to sh c.values[i] k := ⟨_, rfl⟩
         rw [← hmb] at hnx ⊢
         cases mb with
         | true =>
           rw [Bool.true_or] at hnx
           refine code_sound (more := more8 false _ _) more8_ok FOK.wide _ ?_
           repeat' ((try conv => whnf); first|(first|refine k3 ?_ ?_|refine k4 ?_ ?_) <;> intro hb <;> (try rw [lM] at hb) <;> try (exfalso; omega)|fail)
           refine Wp.draw (more := more8 true _ _) more8_det more8_ok FOK.wide rfl (by decide +kernel) (by conv => lhs; reduce) ?_
           repeat' ((try conv => whnf); first|refine s4 nm ?_|fail)
           refine ⟨k + 1, Le.of ?_ (by (repeat' (first|exact trivial|refine aq ?_ ?_|refine Exists.intro _ (aq rfl ?_)|exact oq|fail))) rfl rfl rfl, by omega, by omega⟩
           rw [hnx]
           (repeat' (first|exact trivial|refine aq ?_ ?_|exact oq|fail))
         | false =>
           rw [Bool.false_or] at hnx
           by_cases ht : x.1.fields[k] = to
           · rw [show decide (x.1.fields[k] = to ∧ x.1.values[k] - sh = c.values[i]) = decide (x.1.values[k] - sh = c.values[i]) from decide_eq_decide.2 ⟨fun h => h.2, fun h => ⟨ht, h⟩⟩] at hnx
             refine code_sound (more := more8 false _ _) more8_ok FOK.wide _ ?_
             repeat' ((try conv => whnf); first|(first|refine k3 ?_ ?_|refine k4 ?_ ?_) <;> intro hb <;> (try rw [lM] at hb) <;> try (exfalso; omega)|fail)
             refine Wp.draw (more := more8 true _ _) more8_det more8_ok FOK.wide rfl (by decide +kernel) (by conv => lhs; reduce) ?_
             repeat' ((try conv => whnf); first|(first|refine k3 ?_ ?_|refine k4 ?_ ?_) <;> intro hb <;> (try rw [lM] at hb) <;> try (exfalso; omega)|refine s4 nm ?_|refine s5 nm nm ?_|fail)
             refine ⟨k + 1, Le.of ?_ (by (repeat' (first|exact trivial|refine aq ?_ ?_|refine Exists.intro _ (aq rfl ?_)|exact oq|fail))) rfl rfl rfl, by omega, by omega⟩
             rw [hnx]
             (repeat' (first|exact trivial|refine aq ?_ ?_|exact oq|fail))
           · rw [decide_eq_false (fun h => ht h.1)] at hnx
             refine code_sound (more := more8 false _ _) more8_ok FOK.wide _ ?_
             repeat' ((try conv => whnf); first|(first|refine k3 ?_ ?_|refine k4 ?_ ?_) <;> intro hb <;> (try rw [lM] at hb) <;> try (exfalso; omega)|fail)
             refine Wp.draw (more := more8 true _ _) more8_det more8_ok FOK.wide rfl (by decide +kernel) (by conv => lhs; reduce) ?_
             repeat' ((try conv => whnf); first|(first|refine k3 ?_ ?_|refine k4 ?_ ?_) <;> intro hb <;> (try rw [lM] at hb) <;> try (exfalso; omega)|refine s4 nm ?_|refine s5 nm nm ?_|fail)
             refine ⟨k + 1, Le.of ?_ (by (repeat' (first|exact trivial|refine aq ?_ ?_|refine Exists.intro _ (aq rfl ?_)|exact oq|fail))) rfl rfl rfl, by omega, by omega⟩
             rw [hnx]
             (repeat' (first|exact trivial|refine aq ?_ ?_|exact oq|fail))
       · have e : k = L.length := by omega
         subst e
         rw [hmet]
         refine code_sound (more := more8 false _ _) more8_ok FOK.wide _ ?_
         repeat' ((try conv => whnf); first|(first|refine k3 ?_ ?_|refine k4 ?_ ?_) <;> intro hb <;> (try rw [lM] at hb) <;> try (exfalso; omega)|refine s4 nm ?_|fail)
         exact ⟨i + 1, Le.of (by (repeat' (first|exact trivial|refine aq ?_ ?_|exact oq|fail))) (by (repeat' (first|exact trivial|refine aq ?_ ?_|refine Exists.intro _ (aq rfl ?_)|exact oq|fail))) rfl rfl rfl, by omega, by omega⟩
   · have e : i = c.fields.length := by omega
     subst e
     refine code_sound (more := more8 false _ _) more8_ok FOK.wide _ ?_
     repeat' ((try conv => whnf); first|(first|refine k3 ?_ ?_|refine k4 ?_ ?_) <;> intro hb <;> (try rw [lM] at hb) <;> try (exfalso; omega)|fail)
     exact PSub.refl _
end Go.Proofs.Ytihbkbioafdhjaa
