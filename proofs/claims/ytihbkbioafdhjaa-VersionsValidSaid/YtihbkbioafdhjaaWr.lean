/- Versions: the law VersionsAround. Conditions: none. -/
import Derived.Test.YtihbkbioafdhjaaWd
import Derived.Test.YtihbkbioafdhjaaWq
set_option linter.unusedSimpArgs false
set_option linter.unusedVariables false
set_option maxRecDepth 20000
set_option maxHeartbeats 4000000
namespace Go.Proofs.Ytihbkbioafdhjaa
open Go.Avc
def flipE (e : Int) : Int := e / 2 * 2 + 1 - e % 2
def backW (w : List Int) : List Int := w.reverse.map flipE
theorem flip_out {l : List Cv} {u e x : Int} (h : (e, x) ∈ outF l u) : (flipE e, u) ∈ outF l x := by
 obtain ⟨i, hi, h⟩ := outF_mem.1 h
 refine outF_mem.2 ⟨i, hi, ?_⟩
 unfold flipE
 rcases h with ⟨h1, h2, h3⟩ | ⟨h1, h2, h3⟩
 · exact .inr ⟨h3, by omega, h1⟩
 · exact .inl ⟨h3, by omega, h1⟩
theorem back_cons (e : Int) (w : List Int) : backW (e :: w) = backW w ++ [flipE e] := by simp [backW]
theorem back_way {l : List Cv} : ∀ {w : List Int} {a b : Int}, isWay l a w b → isWay l b (backW w) a
 | [], a, b, h => by cases h; exact rfl
 | e :: w, a, b, h => by
   obtain ⟨x, h1, h2⟩ := h
   rw [back_cons]
   exact (isWay_snoc ..).2 ⟨x, back_way h2, flip_out h1⟩
theorem back_len (w : List Int) : (backW w).length = w.length := by simp [backW]
theorem way_ok {s : Src} : ∀ {w : List Int} {a b : Int}, isWay s.converts a w b → ∀ e ∈ w, okE s e
 | [], _, _, _, e, he => by cases he
 | e :: w, a, b, h, e', he => by
   obtain ⟨x, h1, h2⟩ := h
   rcases List.mem_cons.1 he with rfl | he
   · obtain ⟨i, hi, h⟩ := outF_mem.1 h1
     unfold okE
     rcases h with ⟨_, h, _⟩ | ⟨_, h, _⟩ <;> omega
   · exact way_ok h2 e' he
theorem lenRef {l : List Cv} {a b : Int} {n : Nat} {w : List Int} (h : refW l a b n = some w) : ∃ w', refW l b a n = some w' ∧ w'.length = w.length := by
 obtain ⟨⟨h1, h2⟩, h3⟩ := refW_some h
 have hb := back_way h1
 cases hr : refW l b a n with
 | none => have := refW_none hr hb; rw [back_len] at this; omega
 | some w' =>
   refine ⟨w', rfl, ?_⟩
   obtain ⟨⟨g1, g2⟩, g3⟩ := refW_some hr
   have k1 := g2 _ hb
   have k2 := h2 _ (back_way g1)
   have len : ∀ {x y : List Int}, wLe x y → x.length ≤ y.length := fun h => by
     rcases h with rfl | h | ⟨h, _⟩ <;> omega
   have l1 := len k1
   have l2 := len k2
   rw [back_len] at l1 l2
   omega
theorem step_back {s : Src} (ha : allTwo s = true) {u e x : Int} (h : (e, x) ∈ outF s.converts u) {c : Cl} (hr : (alS s (c, 0) e).2 = 0) : (alS s (c, 0) e).1.schema = x ∧ alS s ((alS s (c, 0) e).1, 0) (flipE e) = (c, 0) := by
 obtain ⟨i, hi, h⟩ := outF_mem.1 h
 have ht := allTwo_at ha hi
 have g : ∀ (n : Nat) (hn : n / 2 = i) (c : Cl), alS s (c, 0) (n : Int) = perfR s (dirC (n % 2 == 1) s.converts[i]) c := fun n hn c => by
   have := alS_at (s := s) (r := (c, 0)) (n := n) rfl (by omega)
   rw [this]
   simp only [hn]
 rcases h with ⟨h1, h2, h3⟩ | ⟨h1, h2, h3⟩
 · have e1 : e = ((2 * i : Nat) : Int) := by omega
   have e2 : flipE e = ((2 * i + 1 : Nat) : Int) := by unfold flipE; omega
   rw [e2]
   rw [e1, g _ (by omega)] at hr ⊢
   rw [g _ (by omega)]
   rw [show (2 * i % 2 == 1) = false by rw [Nat.mul_mod_right]; rfl] at hr ⊢
   rw [show ((2 * i + 1) % 2 == 1) = true by rw [Nat.mul_add_mod]; rfl]
   change (perfR s s.converts[i] c).2 = 0 at hr
   have hv : validP s s.converts[i].a c := Classical.byContradiction fun hv => by rw [perfR_no hv] at hr; cases hr
   refine ⟨?_, perfR_back ht hv⟩
   show (perfR s s.converts[i] c).1.schema = x
   rw [perfR_yes ht hv, h3]
   rfl
 · have e1 : e = ((2 * i + 1 : Nat) : Int) := by omega
   have e2 : flipE e = ((2 * i : Nat) : Int) := by unfold flipE; omega
   rw [e2]
   rw [e1, g _ (by omega)] at hr ⊢
   rw [g _ (by omega)]
   rw [show (2 * i % 2 == 1) = false by rw [Nat.mul_mod_right]; rfl]
   rw [show ((2 * i + 1) % 2 == 1) = true by rw [Nat.mul_add_mod]; rfl] at hr ⊢
   change (perfR s (turnC s.converts[i]) c).2 = 0 at hr
   have ht' := twoP_turn ht
   have hv : validP s (turnC s.converts[i]).a c := Classical.byContradiction fun hv => by rw [perfR_no hv] at hr; cases hr
   refine ⟨?_, ?_⟩
   · show (perfR s (turnC s.converts[i]) c).1.schema = x
     rw [perfR_yes ht' hv, h3]
     rfl
   · have := perfR_back ht' hv
     rw [turn_turn] at this
     exact this
theorem around_fold {s : Src} (ha : allTwo s = true) : ∀ {w : List Int} {a b : Int} {c : Cl}, isWay s.converts a w b → c.schema = a → (w.foldl (alS s) (c, 0)).2 = 0 →
   (w.foldl (alS s) (c, 0)).1.schema = b ∧ (backW w).foldl (alS s) ((w.foldl (alS s) (c, 0)).1, 0) = (c, 0)
 | [], a, b, c, h, hc, _ => by cases h; exact ⟨hc, rfl⟩
 | e :: w, a, b, c, h, hc, hr => by
   obtain ⟨x, h1, h2⟩ := h
   rw [List.foldl_cons] at hr ⊢
   have h0 : (alS s (c, 0) e).2 = 0 := Classical.byContradiction fun hne => by
     rw [alF_bad w _ hne] at hr; exact hne hr
   obtain ⟨k1, k2⟩ := step_back ha h1 h0
   have hpair : alS s (c, 0) e = ((alS s (c, 0) e).1, 0) := Prod.ext rfl h0
   rw [hpair] at hr ⊢
   obtain ⟨i1, i2⟩ := around_fold ha h2 k1 hr
   refine ⟨i1, ?_⟩
   rw [back_cons, List.foldl_append, i2]
   exact k2
theorem alR_at {s : Src} (ha : allTwo s = true) {l : List Int} (ho : ∀ e ∈ l, okE s e) (c : Cl) : alR s l c = l.foldl (alS s) (c, 0) := by
 unfold alR
 rw [if_pos ha, if_pos (List.all_eq_true.2 fun e he => decide_eq_true (ho e he))]
 unfold alT
 rw [List.take_length]
theorem alR_bad {s : Src} {l : List Int} {c : Cl} (h : (alR s l c).2 ≠ 0) : (alR s l c).1 = zeroCl := by
 have stay : ∀ (l : List Int) (r : Cl × Int), (r.2 = 0 ∨ r.1 = zeroCl) → (l.foldl (alS s) r).2 ≠ 0 → (l.foldl (alS s) r).1 = zeroCl := by
   intro l
   induction l with
   | nil => intro r hr hn; exact hr.resolve_left hn
   | cons e l ih =>
     intro r hr hn
     rw [List.foldl_cons] at hn ⊢
     refine ih _ ?_ hn
     by_cases h0 : (alS s r e).2 = 0
     · exact .inl h0
     · refine .inr ?_
       unfold alS at h0 ⊢
       split
       · rename_i hr0
         rw [if_pos hr0] at h0
         rw [perfR_bad h0]
       · rename_i hr0
         exact hr.resolve_left hr0
 unfold alR at h ⊢
 split
 · rename_i ha
   rw [if_pos ha] at h
   split
   · rename_i ho
     rw [if_pos ho] at h
     exact stay _ _ (.inl rfl) h
   · rfl
 · rfl
theorem wayR_yes {s : Src} {a b : Int} (h : (wayR s a b).2.2 = 0) (hok : (wayR s a b).2.1 = true) : allTwo s = true ∧ okA s a ∧ okA s b ∧ refW s.converts a b s.schemas.length = some (wayR s a b).1 := by
 unfold wayR at h hok ⊢
 split at h
 · rename_i ha
   split at h
   · rename_i ho
     rw [if_pos ha, if_pos ho] at hok ⊢
     cases hr : refW s.converts a b s.schemas.length with
     | none => rw [hr] at hok; cases hok
     | some w => exact ⟨ha, ho.1, ho.2, rfl⟩
   · cases h
 · cases h
theorem wayR_no {s : Src} {a b : Int} (h : ¬ ((wayR s a b).2.2 = 0 ∧ (wayR s a b).2.1 = true)) : (wayR s a b).1 = [] := by
 unfold wayR at h ⊢
 split
 · rename_i ha
   split
   · rename_i ho
     rw [if_pos ha, if_pos ho] at h
     cases hr : refW s.converts a b s.schemas.length with
     | none => rfl
     | some w => rw [hr] at h; exact absurd ⟨rfl, rfl⟩ h
   · rfl
 · rfl
theorem wayR_turn {s : Src} {a b : Int} (h : (wayR s a b).2.2 = 0) (hok : (wayR s a b).2.1 = true) : (wayR s b a).2.2 = 0 ∧ (wayR s b a).2.1 = true ∧ (wayR s b a).1.length = (wayR s a b).1.length := by
 obtain ⟨ha, o1, o2, hr⟩ := wayR_yes h hok
 obtain ⟨w', h1, h2⟩ := lenRef hr
 have : wayR s b a = (w', true, 0) := by
   unfold wayR
   rw [if_pos ha, if_pos ⟨o2, o1⟩, h1]
   rfl
 rw [this]
 exact ⟨rfl, rfl, h2⟩
def bkT (l : List Int) (j : Nat) : List Int := (l.reverse.take j).map flipE
theorem bkT_next {l : List Int} {j : Nat} (h : j < l.length) : bkT l (j + 1) = bkT l j ++ [flipE (l[l.length - 1 - j]'(by omega))] := by
 unfold bkT
 rw [List.take_succ_eq_append_getElem (by simpa using h), List.map_append, List.getElem_reverse]
 rfl
theorem bkT_all (l : List Int) : bkT l l.length = backW l := by unfold bkT backW; rw [List.take_of_length_le (by simp)]
theorem bkT_len (l : List Int) (j : Nat) (h : j ≤ l.length) : (bkT l j).length = j := by simp [bkT]; omega
attribute [local irreducible] PSub Wp PSpec Le Need Both
theorem around_law (s : Src) (hs : s.sz) (hg : s.rg) (b : Int) (c : Cl) (h1 : c.fields.length ≤ 140737488355328) (h2 : c.values.length ≤ 140737488355328) : PSpec Try.prog 7 [.agg (encSrc s), .int b, .agg (encCl c)] (.bool true) := by
 have qw := few_spec s hs c h1 h2
 by_cases hfw : fewP s c
 case neg =>
   rw [decide_eq_false hfw] at qw
   refine PSpec.of_vc (fun Γ => more8 false Γ.P Γ.fx) (fun Γ => more8_ok) Try.func7 rfl Try.call7 (by simp) ?_
   rintro ⟨P, N, w0, X, β0, fx, y, hy, pk, df⟩ rfl rfl rfl hoff rfl; change y.on = false at hoff
   skip
   refine .inl ⟨_, sane_spec, ?_⟩
   skip
   refine .inl ⟨_, qw, ?_⟩
   skip
   exact PSub.refl _
 rw [decide_eq_true hfw] at qw
 have hw := fewP_few hfw
 obtain ⟨_, _, _, _, hcf, hcv⟩ := hfw
 have f1 := way_spec s hs hg hw c.schema b
 have f2 := way_spec s hs hg hw b c.schema
 have l1 := wayR_len hw c.schema b
 by_cases hok : (wayR s c.schema b).2.2 = 0 ∧ (wayR s c.schema b).2.1 = true
 case neg =>
   have hnil := wayR_no hok
   obtain ⟨⟨x1, x2, x3⟩, hx⟩ : ∃ x, x = wayR s c.schema b := ⟨_, rfl⟩
   rw [← hx] at f1 hok hnil
   dsimp only at hok hnil
   subst hnil
   change PSpec _ _ _ (.tup [encIs [], .bool x2, .int x3]) at f1
   by_cases h3 : x3 = 0
   · cases x2 with
     | true => exact absurd ⟨h3, rfl⟩ hok
     | false =>
       subst h3
       refine PSpec.of_vc (fun Γ => more8 false Γ.P Γ.fx) (fun Γ => more8_ok) Try.func7 rfl Try.call7 (by simp) ?_
       rintro ⟨P, N, w0, X, β0, fx, y, hy, pk, df⟩ rfl rfl rfl hoff rfl; change y.on = false at hoff
       skip
       refine .inl ⟨_, sane_spec, ?_⟩
       skip
       refine .inl ⟨_, qw, ?_⟩
       skip
       refine .inl ⟨_, f1, ?_⟩
       repeat' ((try conv => whnf); first|refine aq rfl ?_|fail)
       exact sub_bool (decide_eq_true (by rfl))
   · refine PSpec.of_vc (fun Γ => more8 false Γ.P Γ.fx) (fun Γ => more8_ok) Try.func7 rfl Try.call7 (by simp) ?_
     rintro ⟨P, N, w0, X, β0, fx, y, hy, pk, df⟩ rfl rfl rfl hoff rfl; change y.on = false at hoff
     skip
     refine .inl ⟨_, sane_spec, ?_⟩
     skip
     refine .inl ⟨_, qw, ?_⟩
     skip
     refine .inl ⟨_, f1, ?_⟩
     repeat' ((try conv => whnf); first|(first|refine k3 ?_ ?_|refine k4 ?_ ?_) <;> intro hb <;> (try rw [lM] at hb) <;> try (exfalso; omega)|refine aq rfl ?_|fail)
     exact sub_bool (decide_eq_true (by rfl))
 obtain ⟨t1, t2, t3⟩ := wayR_turn hok.1 hok.2
 obtain ⟨ha, o1, o2, hr⟩ := wayR_yes hok.1 hok.2
 obtain ⟨⟨l, x2, x3⟩, hx⟩ : ∃ x, x = wayR s c.schema b := ⟨_, rfl⟩
 obtain ⟨⟨m, y2, y3⟩, hy⟩ : ∃ x, x = wayR s b c.schema := ⟨_, rfl⟩
 rw [← hx] at f1 l1 hok hr t3
 rw [← hy] at f2 t1 t2 t3
 dsimp only at l1 hok hr t1 t2 t3
 obtain ⟨rfl, rfl⟩ := hok
 subst t1
 subst t2
 change PSpec _ _ _ (.tup [encIs l, .bool true, .int 0]) at f1
 change PSpec _ _ _ (.tup [encIs m, .bool true, .int 0]) at f2
 have hway := (refW_some hr).1.1
 have hoe := way_ok hway
 have f3 := along_spec s hs hg hw l (by omega) c (by omega) (by omega)
 have g3 := alR_len (s := s) l c (B := 20) ⟨hcf, hcv⟩
 have lL : (l.map fun x => [PV.int x]).length = l.length := List.length_map ..
 have lM : (m.map fun x => [PV.int x]).length = m.length := List.length_map ..
 by_cases hz0 : (alR s l c).2 = 0
 case neg =>
   have hzz := alR_bad hz0
   obtain ⟨⟨z1, z2⟩, hz⟩ : ∃ z, z = alR s l c := ⟨_, rfl⟩
   rw [← hz] at f3 hzz hz0
   dsimp only at hzz hz0
   subst hzz
   change PSpec _ _ _ (.tup [.agg (encCl zeroCl), .int z2]) at f3
   have sz := same_zero
   refine PSpec.of_vc (fun Γ => more8 false Γ.P Γ.fx) (fun Γ => more8_ok) Try.func7 rfl Try.call7 (by simp) ?_
   rintro ⟨P, N, w0, X, β0, fx, y, hy, pk, df⟩ rfl rfl rfl hoff rfl; change y.on = false at hoff
   skip
   refine .inl ⟨_, sane_spec, ?_⟩
   skip
   refine .inl ⟨_, qw, ?_⟩
   skip
   refine .inl ⟨_, f1, ?_⟩
   repeat' ((try conv => whnf); first|refine aq rfl ?_|fail)
   refine .inl ⟨_, f2, ?_⟩
   repeat' ((try conv => whnf); first|(first|refine k3 ?_ ?_|refine k4 ?_ ?_) <;> intro hb <;> (try rw [lM] at hb) <;> try (exfalso; omega)|refine aq rfl ?_|fail)
   refine .inl ⟨_, f3, ?_⟩
   repeat' ((try conv => whnf); first|(first|refine k3 ?_ ?_|refine k4 ?_ ?_) <;> intro hb <;> (try rw [lM] at hb) <;> try (exfalso; omega)|refine aq rfl ?_|fail)
   refine .inl ⟨_, sz, ?_⟩
   skip
   exact PSub.refl _
 have haf := around_fold ha hway rfl (by rw [← alR_at ha hoe]; exact hz0)
 rw [← alR_at ha hoe, ← alR_at ha (way_ok (back_way hway))] at haf
 obtain ⟨k1, k2⟩ := haf
 have f4 := along_spec s hs hg hw (backW l) (by rw [back_len]; omega) (alR s l c).1 (by omega) (by omega)
 rw [k2] at f4
 obtain ⟨⟨z1, z2⟩, hz⟩ : ∃ z, z = alR s l c := ⟨_, rfl⟩
 rw [← hz] at f3 f4 k1 g3 hz0
 dsimp only at f4 k1 g3 hz0
 subst hz0
 change PSpec _ _ _ (.tup [.agg (encCl z1), .int 0]) at f3
 change PSpec _ _ _ (.tup [.agg (encCl c), .int 0]) at f4
 have ss := same_self c (by omega) (by omega)
 refine PSpec.of_vc (fun Γ => more8 false Γ.P Γ.fx) (fun Γ => more8_ok) Try.func7 rfl Try.call7 (by simp) ?_
 rintro ⟨P, N, w0, X, β0, fx, y, hy, pk, df⟩ rfl rfl rfl hoff rfl; change y.on = false at hoff
 skip
 refine .inl ⟨_, sane_spec, ?_⟩
 skip
 refine .inl ⟨_, qw, ?_⟩
 skip
 refine .inl ⟨_, f1, ?_⟩
 repeat' ((try conv => whnf); first|refine aq rfl ?_|fail)
 refine .inl ⟨_, f2, ?_⟩
 repeat' ((try conv => whnf); first|(first|refine k3 ?_ ?_|refine k4 ?_ ?_) <;> intro hb <;> (try rw [lM] at hb) <;> try (exfalso; omega)|refine aq rfl ?_|fail)
 refine .inl ⟨_, f3, ?_⟩
 repeat' ((try conv => whnf); first|refine aq rfl ?_|refine s4 nm ?_|refine aq bd ?_|fail)
 refine Wp.loop (fun j : Nat => ⟨[(1, .int b), (3, .loc 3 0 0), (5, .loc 5 0 0), (7, .pure (encIs l)), (13, .loc 13 0 0), (15, .lsl 300 0 j), (16, .int ((l.length : Int) - 1 - j))],
   [(3, some (.box (pures (encSrc s)))), (5, some (.box (pures (encCl c)))), (13, some (.box (pures (encCl z1)))), (300, some (.row 1 (ints (bkT l j))))], [3, 5, 13, 300]⟩) (fun j => j ≤ l.length) (fun j => l.length - j) 0
   (Le.map [(300, 77)] ?_ ?_ rfl rfl rfl rfl) (by omega) ?_
 · (repeat' (first|exact trivial|refine aq ?_ ?_|exact oq|fail))
   all_goals (refine SubA.int ?_; rw [lL]; omega)
 · (repeat' (first|exact trivial|exact rfl|refine aq ?_ ?_|refine Exists.intro _ (aq rfl ?_)|exact oq|fail))
 intro j hj
 have lB : (ints (bkT l j)).length = j := by simp [ints, bkT_len l j hj]
 by_cases hj2 : j < l.length
 · have hnx := bkT_next hj2
   have hi : ((l.length : Int) - 1 - j).toNat = l.length - 1 - j := by omega
   have hil : ((l.length : Int) - 1 - j).toNat < l.length := by omega
   have hoj := hoe _ (List.getElem_mem hil)
   have hei : l[((l.length : Int) - 1 - j).toNat] = l[l.length - 1 - j]'(by omega) := by simp only [hi]
   rw [← hei] at hnx
   unfold okE at hoj
   obtain ⟨e, he⟩ : ∃ e : Nat, l[((l.length : Int) - 1 - j).toNat] = e := ⟨_, (Int.toNat_of_nonneg hoj.1).symm⟩
   have hlc := hw.nc
   have d1 : IntKind.i64.wrap (l[((l.length : Int) - 1 - j).toNat].tdiv 2) = ((e / 2 : Nat) : Int) := by rw [he, IntKind.wrap_i64, show ((e : Int).tdiv 2) = ((e / 2 : Nat) : Int) from rfl]; omega
   have d2 : l[((l.length : Int) - 1 - j).toNat].tmod 2 = ((e % 2 : Nat) : Int) := by rw [he]; rfl
   have d3 : flipE l[((l.length : Int) - 1 - j).toNat] = ((e / 2 : Nat) : Int) * 2 + 1 - ((e % 2 : Nat) : Int) := by rw [he]; unfold flipE; omega
   rw [d3] at hnx
   refine code_sound (more := more8 false _ _) more8_ok FOK.wide _ ?_
   repeat' ((try conv => whnf); first|(first|refine k3 ?_ ?_|refine k4 ?_ ?_) <;> intro hb <;> (try rw [lM] at hb) <;> try (exfalso; omega)|fail)
   refine Wp.draw (more := more8 true _ _) more8_det more8_ok FOK.wide rfl (by decide +kernel) (by conv => lhs; reduce) ?_
   repeat' ((try conv => whnf); first|refine s6 nm nm ?_|refine aq bd ?_|fail)
   refine ⟨_, d1, ?_⟩
   repeat' ((try conv => whnf); first|refine s4 nm ?_|refine s6 nm nm ?_|refine aq bd ?_|fail)
   refine ⟨_, d2, ?_⟩
   repeat' ((try conv => whnf); first|refine s4 nm ?_|refine aq bd ?_|fail)
   refine ⟨j + 1, Le.map [(300, 100)] ?_ ?_ rfl rfl rfl rfl, by omega, by omega⟩
   · rw [hnx]
     (repeat' (first|exact trivial|refine aq ?_ ?_|exact oq|exact SubA.lsl ls|fail))
     all_goals first
       | (refine SubA.lsl ?_; focus (simp [ints, bkT_len l j hj]; done))
       | (refine SubA.int ?_; omega)
       | (refine rowEq ?_; focus (simp [ints]; done))
   · rw [hnx]
     (repeat' (first|exact trivial|refine aq ?_ ?_|refine Exists.intro _ (aq rfl ?_)|exact oq|fail))
     all_goals first
       | (refine SubA.lsl ?_; focus (simp [ints, bkT_len l j hj]; done))
       | (refine SubA.int ?_; omega)
       | (refine rowEq ?_; focus (simp [ints]; done))
 · have e : j = l.length := by omega
   subst e
   refine code_sound (more := more8 false _ _) more8_ok FOK.wide _ ?_
   repeat' ((try conv => whnf); first|(first|refine k3 ?_ ?_|refine k4 ?_ ?_) <;> intro hb <;> (try rw [lM] at hb) <;> try (exfalso; omega)|fail)
   refine .inl ⟨_, PSpec.args f4 ?_, ?_⟩
   · exact ⟨PSub.refl _, PSub.of_eq (by rw [List.drop_zero, List.take_of_length_le (by rw [lB]; exact Nat.le_refl _), bkT_all]; rfl), PSub.refl _, trivial⟩
   repeat' ((try conv => whnf); first|(first|refine k3 ?_ ?_|refine k4 ?_ ?_) <;> intro hb <;> (try rw [lM] at hb) <;> try (exfalso; omega)|refine aq rfl ?_|fail)
   refine .inl ⟨_, ss, ?_⟩
   skip
   exact PSub.refl _
end Go.Proofs.Ytihbkbioafdhjaa
