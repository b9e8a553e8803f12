/- Facts: what has changed: the order of keys, entries met in any order. Conditions: none. -/
import Derived.Test.YtinhhmnnfbeimaaWd
import Derived.Test.YtinhhmnnfbeimaaWf
import Derived.Test.YtinhhmnnfbeimaaWi
import Derived.Shelf.SlSortCmp.NoneTotal
set_option linter.unusedSimpArgs false
set_option linter.unusedVariables false
namespace Go.Proofs.Ytinhhmnnfbeimaa
open Go.Avc
def encDf (x : Df) : List PV := [.int x.1.kind, .int x.1.subj, .int x.1.obj, encPts x.2]
def encDfs (l : List Df) : PV := .sl 4 (l.map encDf)
def cmpK (a b : Ky) : Int := if cmpI a.kind b.kind ≠ 0 then cmpI a.kind b.kind else if cmpI a.subj b.subj ≠ 0 then cmpI a.subj b.subj else cmpI a.obj b.obj
def cmpD (x y : Df) : Int := cmpK x.1 y.1
theorem cmpK_lt (a b : Ky) : cmpK a b < 0 ↔ lessK a b := by
  unfold cmpK cmpI lessK
  by_cases h1 : a.kind < b.kind <;> by_cases h2 : b.kind < a.kind <;> by_cases h3 : a.subj < b.subj <;> by_cases h4 : b.subj < a.subj <;> by_cases h5 : a.obj < b.obj <;> by_cases h6 : b.obj < a.obj <;> simp [h1, h2, h3, h4, h5, h6] <;> omega
def kpK (l : List Fa) (j : Nat) : PV := .agg (encKy ((gks (facL l)).getD j ⟨0, 0, 0⟩))
theorem kpK_ok (l : List Fa) (j : Nat) (k : Value) (h : ((gks (facL l)).map kyK.val)[j]? = some k) (w : World) (A : Nat → Prop) : PR w A (kpK l j) k := by
  rw [List.getElem?_map, Option.map_eq_some_iff] at h
  obtain ⟨x, hx, rfl⟩ := h
  unfold kpK
  rw [List.getD_eq_getElem?_getD, hx, Option.getD_some]
  refine .agg _ _ rfl fun m p hp => ?_
  match m, hp with
  | 0, hp => cases hp; exact .val _
  | 1, hp => cases hp; exact .val _
  | 2, hp => cases hp; exact .val _
set_option maxRecDepth 20000
set_option maxHeartbeats 4000000
set_option linter.unusedSimpArgs false
attribute [local irreducible] PSub Wp PSpec Le Need Both
theorem compareKeys_spec (a b : Ky) : PSpec Try.prog 42 [.agg (encKy a), .agg (encKy b)] (.int (cmpK a b)) := by
  have q1 := cmpI_spec a.kind b.kind
  have q2 := cmpI_spec a.subj b.subj
  have q3 := cmpI_spec a.obj b.obj
  have q4 := or_spec [cmpI a.kind b.kind, cmpI a.subj b.subj, cmpI a.obj b.obj] (by simp)
  have e : orL [cmpI a.kind b.kind, cmpI a.subj b.subj, cmpI a.obj b.obj] = cmpK a b := by
    unfold cmpK
    simp only [orL]
    split
    · rfl
    · split
      · rfl
      · split <;> omega
  rw [e] at q4
  refine PSpec.of_vc (fun Γ => more8 false Γ.P Γ.fx) (fun Γ => more8_ok) Try.func42 rfl Try.call42 (by simp) ?_
  rintro ⟨P, N, w0, X, β0, fx, y, hy, pk, df⟩ rfl rfl rfl hoff rfl; change y.on = false at hoff
  skip
  refine Wp.draw (more := more8 true _ _) more8_det more8_ok FOK.wide rfl (by decide +kernel) (by conv => lhs; reduce) ?_
  skip
  refine ⟨_, q1, ?_⟩
  skip
  refine ⟨_, q2, ?_⟩
  skip
  refine ⟨_, q3, ?_⟩
  repeat' ((try conv => whnf); first | refine And.intro bd ?_ | fail)
  refine ⟨_, q4, ?_⟩
  skip
  exact PSub.refl _
theorem changed1_spec (x y : Df) : PSpec Try.prog 41 [.agg (encDf x), .agg (encDf y)] (.int (cmpD x y)) := by
  have q := compareKeys_spec x.1 y.1
  refine PSpec.of_vc (fun Γ => more8 false Γ.P Γ.fx) (fun Γ => more8_ok) Try.func41 rfl Try.call41 (by simp) ?_
  rintro ⟨P, N, w0, X, β0, fx, y, hy, pk, df⟩ rfl rfl rfl hoff rfl; change y.on = false at hoff
  skip
  refine .inl ⟨_, q, ?_⟩
  skip
  exact PSub.refl _
theorem nodup_lt : ∀ {n : Nat} {js : List Nat}, js.Nodup → (∀ j ∈ js, j < n) → js.length ≤ n
  | 0, js, _, hb => by
    cases js with
    | nil => exact Nat.le_refl _
    | cons j js => have := hb j (by simp); omega
  | n + 1, js, h, hb => by
    have h1 := nodup_lt (n := n) (h.erase n) fun j hj => by
      have h2 := (h.mem_erase_iff).1 hj
      have := hb j h2.2
      have := h2.1
      omega
    have h3 : js.length ≤ (js.erase n).length + 1 := by rw [List.length_erase]; split <;> omega
    omega
theorem gks_len {α : Type} [DecidableEq α] (L : List (α × List PV)) : (gks L).length ≤ L.length := by
  induction L using snocI with
  | h0 => simp [gks]
  | hs l q ih =>
    rw [gks_snoc, List.length_append, List.length_singleton]
    split
    · omega
    · rw [List.length_append, List.length_singleton]; omega
def keyAt (l : List Fa) (j : Nat) : Ky := (gks (facL l)).getD j ⟨0, 0, 0⟩
def seenK (l : List Fa) (js : List Nat) : List Ky := js.map (keyAt l)
theorem keyAt_inj {l : List Fa} {i j : Nat} (hi : i < (gks (facL l)).length) (hj : j < (gks (facL l)).length) (h : keyAt l i = keyAt l j) : i = j := by
  unfold keyAt at h
  rw [getD_at hi, getD_at hj] at h
  exact (List.getElem_inj (gks_nodup _)).1 h
theorem seenK_nodup {l : List Fa} : ∀ {js : List Nat}, js.Nodup → (∀ j ∈ js, j < (gks (facL l)).length) → (seenK l js).Nodup
  | [], _, _ => List.nodup_nil
  | j :: js, h, hb => by
    obtain ⟨h1, h2⟩ := List.nodup_cons.1 h
    refine List.nodup_cons.2 ⟨fun hm => ?_, seenK_nodup h2 fun i hi => hb i (by simp [hi])⟩
    obtain ⟨i, hi, he⟩ := List.mem_map.1 hm
    have := keyAt_inj (hb i (by simp [hi])) (hb j (by simp)) he
    subst this
    exact h1 hi
theorem seenK_all {l : List Fa} {js : List Nat} (hb : ∀ j ∈ js, j < (gks (facL l)).length) (ha : ∀ j, j < (gks (facL l)).length → j ∈ js) (k : Ky) : k ∈ seenK l js ↔ k ∈ keysF l := by
  rw [← gks_keys]
  unfold seenK
  rw [List.mem_map]
  constructor
  · rintro ⟨j, hj, rfl⟩
    unfold keyAt
    rw [getD_at (hb j hj)]
    exact List.getElem_mem _
  · intro h
    obtain ⟨j, hj, rfl⟩ := List.getElem_of_mem h
    exact ⟨j, ha j hj, getD_at hj⟩
theorem seenK_snoc (l : List Fa) (js : List Nat) (j : Nat) : seenK l (js ++ [j]) = seenK l js ++ [keyAt l j] := by unfold seenK; rw [List.map_append]; rfl
end Go.Proofs.Ytinhhmnnfbeimaa
/- Facts: changes are sorted by their keys. Conditions: none. -/
namespace Go.Avc
open Go.RowKit
open Go.Shelf (Ren)
/-- Sorting no elements. -/
theorem sort_none {P : Program} {ρ : Ren} (L : Go.Proofs.SlLaysF0.n6 P ρ) (k : Nat) (g : FuncId) : PSpec P (ρ.f 6) [.sl k [], .fn g []] (.tup []) := by
  refine ⟨fun vs w => L.f6.enters rfl vs w, fun w X vs hgl hsz hv hX => ?_⟩
  have h0 := hv 0 _ rfl
  have h1 := hv 1 _ rfl
  obtain ⟨p, cap, hs0⟩ : ∃ p cap, vs.getD 0 undef = .slice p 0 cap := by
    generalize vs.getD 0 undef = u at h0
    cases h0 with
    | slnil => exact ⟨none, 0, rfl⟩
    | sl _ _ a cap => exact ⟨some a, cap, rfl⟩
  have hvs : vs = #[.slice p 0 cap, vs.getD 1 undef] := by
    obtain ⟨l⟩ := vs
    match l, hsz with
    | [a, b], _ =>
      simp at hs0 ⊢
      exact hs0
  rw [hvs]
  refine (Go.Proofs.AnyF.slices_SortFunc_none L p cap (vs.getD 1 undef) w).mono ?_
  rintro e w' ⟨rfl, rfl⟩
  exact ⟨_, rfl, .tup [] #[] rfl (fun j p hj => by simp at hj), Kp.refl _ _⟩
end Go.Avc
namespace Go.Proofs.Ytinhhmnnfbeimaa
open Go.Avc
theorem swoD : Go.Sort.SWO fun x y : Df => decide (cmpD x y < 0) where
  irrefl x := by simp only [decide_eq_false_iff_not, cmpD, cmpK_lt]; exact lessK_irr _
  trans x y z h1 h2 := by
    simp only [decide_eq_true_eq, cmpD, cmpK_lt] at *
    exact lessK_trans h1 h2
  ntrans x y z h1 h2 := by
    simp only [decide_eq_false_iff_not, cmpD, cmpK_lt] at *
    intro h3
    rcases lessK_tri x.1 y.1 with h | h | h
    · exact h1 h
    · rw [← h] at h2; exact h2 h3
    · exact h2 (lessK_trans h h3)
theorem sortD_spec (d d' : List Df) (hn : 0 < d.length) (hn2 : d.length ≤ 1000000) (hu : ∀ r : List Df, r.Perm d → r.Pairwise (fun x y => ¬ ltD y x) → r = d') : GSpec Try.prog 40 2 ⟨numE 0 [.lsl 100 0 d.length, .fn 41 []], [(100, some (.row 4 (d.map encDf)))], [100]⟩ [100] 0 ⟨[], [(100, some (.row 4 (d'.map encDf)))], [100]⟩ :=
  sort_spec Try.sortDf (k := 4) Try.isAgg57 Try.sizeOf57 encDf cmpD swoD 41 d d' (fun x _ y _ => changed1_spec x y) hn (by omega) (fun r h1 h2 => hu r h1 (h2.imp fun {x y} h h' => h ((cmpK_lt _ _).2 h'))) 100
end Go.Proofs.Ytinhhmnnfbeimaa
/- Facts: what has changed (a loop over a map, then a sort). Conditions: none. -/
namespace Go.Proofs.Ytinhhmnnfbeimaa
open Go.Avc
set_option maxRecDepth 20000
set_option maxHeartbeats 4000000
set_option linter.unusedSimpArgs false
attribute [local irreducible] PSub Wp PSpec Le Need Both
attribute [local irreducible] Fa.bef atF pntL diffF StepOK ICtx
theorem changed_spec (l : List Fa) (b a : Int) (hl : l.length ≤ 100000) : PSpec Try.prog 24 [encFs l, .int b, .int a] (encDfs (chF l b a)) := by
  have qg := group_spec l (by omega)
  obtain ⟨n, hn⟩ : ∃ n, n = (gks (facL l)).length := ⟨_, rfl⟩
  have hnl : n ≤ 100000 := by have := gks_len (facL l); rw [show (facL l).length = l.length by simp [facL]] at this; omega
  refine PSpec.of_vcI ((gks (facL l)).map kyK.val) ((gks (facL l)).map fun k => .sl 8 (grw (facL l) k)) Try.func24 rfl Try.call24 (by simp) ?_
  rintro ⟨P, N, w0, X, β0, fx, y, hy, pk, df⟩ rfl rfl rfl rfl hG
  skip
  refine Wp.at (more := more8 false _ _) (l1 := [_, _]) (l2 := []) more8_ok FOK.wide rfl rfl (fun c h => by cases h) ?_
  skip
  refine .inl ⟨_, qg, ?_⟩
  repeat' ((try conv => whnf); first | refine And.intro rfl ?_ | fail)
  refine StepOK.range hG rfl rfl (Nat.le_of_ble_eq_true rfl) rfl rfl Try.underlying70 fun r => ?_
  skip
  refine Wp.loop (fun js : List Nat => ⟨[(1, .int b), (2, .int a), (6, .lsl 60 0 (chL l b a (seenK l js)).length), (12, .pure (.val (.pointer (some ⟨r, 0, none⟩)))), (39, .gh (pkL (r :: js)) false)], [(60, some (.row 4 ((chL l b a (seenK l js)).map encDf)))], [60]⟩) (fun js => js.Nodup ∧ ∀ j ∈ js, j < n) (fun js => n - js.length) [] (Le.trans (Le.virt (k := 60) (sz := 4) rfl rfl (by omega)) (Le.of ?_ ?_ rfl rfl rfl)) ⟨List.nodup_nil, by simp⟩ ?_
  · (repeat' (first | exact trivial | refine And.intro ?_ ?_ | exact Or.inl rfl | exact l6 rfl | fail))
  · (repeat' (first | exact trivial | exact rfl | refine And.intro ?_ ?_ | fail))
  rintro js ⟨hjn, hjb⟩
  refine code_soundG (more := more8 false _ _) more8_ok FOK.wide _ ?_
  skip
  refine Wp.at (more := more8 false _ _) (l1 := []) (l2 := [_]) more8_ok FOK.wide rfl rfl (fun c h => by cases h) ?_
  skip
  refine StepOK.next hG (kpK l) (kpK_ok l) rfl rfl (Nat.le_of_ble_eq_true rfl) rfl rfl (fun hall => ?_) (fun j p hj hjs hp => ?_)
  · have hall2 : ∀ k, k ∈ seenK l js ↔ k ∈ keysF l := fun k => seenK_all (hn ▸ hjb) (fun j hj => hall j (by rw [List.length_map]; exact hj)) k
    have hlen := chL_len l b a (seenK l js)
    rw [show (seenK l js).length = js.length by unfold seenK; exact List.length_map ..] at hlen
    have hjl := nodup_lt hjn hjb
    have qs := fun h0 => sortD_spec (chL l b a (seenK l js)) (chF l b a) h0 (by omega) fun r hp hs => ch_unique hall2 (seenK_nodup hjn (hn ▸ hjb)) hp hs
    have hkn : (keysF l).Nodup := List.Pairwise.imp (fun h e => by subst e; exact lessK_irr _ h) (keysF_sorted l)
    have hlf : (chL l b a (seenK l js)).length = (chF l b a).length :=
      (((List.perm_ext_iff_of_nodup (seenK_nodup hjn (hn ▸ hjb)) hkn).2 hall2).filterMap (dfOf l b a)).length_eq
    skip
    by_cases h0 : chL l b a (seenK l js) = []
    · rw [h0]
      refine .inl ⟨_, sort_none Try.sortDf 4 41, ?_⟩
      skip
      refine And.intro ?_ ⟨_, _, rfl⟩
      skip
      have e0 : chF l b a = [] := List.eq_nil_of_length_eq_zero (by rw [← hlf, h0]; rfl)
      rw [e0]
      exact PSub.refl _
    · have h0l : 0 < (chL l b a (seenK l js)).length := List.length_pos_iff.2 h0
      refine .inr ⟨[(100, 60)], [.lsl 100 0 (chL l b a (seenK l js)).length, .fn 41 []], [(100, some (.row 4 ((chL l b a (seenK l js)).map encDf)))], [100], [100], 0, _, qs h0l, ⟨Or.inl rfl, Or.inl rfl, trivial⟩, ⟨rowEq rfl, trivial⟩, ?_⟩
      skip
      refine And.intro ?_ ⟨_, _, rfl⟩
      skip
      exact sub_sl (by rw [List.drop_zero, List.take_of_length_le (by simp [hlf])])
  · obtain ⟨κ, hκ⟩ : ∃ κ, κ = keyAt l j := ⟨_, rfl⟩
    have e1 : kpK l j = .agg (encKy κ) := by rw [hκ]; rfl
    have e2 : p = encFs (ofKey l κ) := by
      rw [List.getElem?_map, List.getElem?_eq_getElem (by rw [List.length_map] at hj; exact hj), Option.map_some, Option.some.injEq] at hp
      rw [← hp, grw_fac, hκ]
      unfold keyAt
      rw [getD_at (by rw [List.length_map] at hj; exact hj)]
      rfl
    have hjn2 : j < n := by rw [hn]; rw [List.length_map] at hj; exact hj
    have hsn : seenK l (js ++ [j]) = seenK l js ++ [κ] := by rw [seenK_snoc, hκ]
    have hofl : (ofKey l κ).length ≤ l.length := List.length_filter_le _ _
    have p1 := paint_spec (ofKey l κ) κ b (by omega)
    have p2 := paint_spec (ofKey l κ) κ a (by omega)
    rw [pnt_key] at p1 p2
    have p3 := diff_spec (pntL l κ b) (pntL l κ a) (pntL_len ..) (pntL_len ..)
    obtain ⟨D, hD⟩ : ∃ D, D = ddF l κ b a := ⟨_, rfl⟩
    rw [show diffF (pntL l κ b) (pntL l κ a) = D by rw [hD]; rfl] at p3
    have hDl : D.length ≤ 1024 := by rw [hD]; unfold ddF diffF; exact spN_len _ _
    have hDm : (D.map encPt).length = D.length := List.length_map ..
    have hlen := chL_len l b a (seenK l js)
    rw [show (seenK l js).length = js.length by unfold seenK; exact List.length_map ..] at hlen
    have hjl := nodup_lt hjn hjb
    have hjl2 := nodup_lt (n := n) (js := js ++ [j]) (List.nodup_append.2 ⟨hjn, by simp, fun x hx y hy e => by rw [List.mem_singleton] at hy; subst hy; subst e; exact hjs hx⟩) (fun x hx => by
      rcases List.mem_append.1 hx with hx | hx
      · exact hjb x hx
      · rw [List.mem_singleton] at hx; subst hx; exact hjn2)
    rw [List.length_append, List.length_singleton] at hjl2
    have hch := chL_snoc l b a (seenK l js) κ
    rw [← hsn, ← hD] at hch
    obtain ⟨c, hc⟩ : ∃ c, c = chL l b a (seenK l js) := ⟨_, rfl⟩
    rw [← hc] at hch hlen
    have hnew : (js ++ [j]).Nodup ∧ ∀ x ∈ js ++ [j], x < n := ⟨List.nodup_append.2 ⟨hjn, by simp, fun x hx y hy e => by rw [List.mem_singleton] at hy; subst hy; subst e; exact hjs hx⟩, fun x hx => by
      rcases List.mem_append.1 hx with hx | hx
      · exact hjb x hx
      · rw [List.mem_singleton] at hx; subst hx; exact hjn2⟩
    have hmu : n - (js ++ [j]).length < n - js.length := by rw [List.length_append, List.length_singleton]; omega
    rw [e1, e2, ← hc]
    skip
    refine Wp.at (more := more8 false _ _) (l1 := []) (l2 := [_, _, _, _, _]) more8_ok FOK.wide rfl rfl (fun c h => by cases h) ?_
    skip
    refine StepOK.entry (j := j) (js := js) hG (kpK l) (kpK_ok l) rfl rfl (Nat.le_of_ble_eq_true rfl) rfl rfl hp ?_
    rw [e1, e2]
    repeat' ((try conv => whnf); first | refine And.intro rfl ?_ | fail)
    refine Wp.draw (more := more8 true _ _) more8_det more8_ok FOK.wide rfl (by decide +kernel) (by conv => lhs; reduce) ?_
    skip
    refine ⟨_, p1, ?_⟩
    repeat' ((try conv => whnf); first | refine And.intro rfl ?_ | fail)
    refine ⟨_, p2, ?_⟩
    repeat' ((try conv => whnf); first | refine And.intro rfl ?_ | fail)
    refine ⟨_, p3, ?_⟩
    repeat' ((try conv => whnf); first | (first | refine k3 (fun hb => ?_) fun hb => ?_ | refine k4 (fun hb => ?_) fun hb => ?_) <;> (try rw [List.length_map] at hb) <;> (try (exfalso; omega; done)) | refine And.intro rfl ?_ | refine And.intro bd ?_ | fail)
    · rw [if_neg (fun h => by have := congrArg List.length h; rw [List.length_nil] at this; omega)] at hch
      refine ⟨js ++ [j], Le.map [(60, 35)] ?_ ?_ rfl rfl rfl rfl, hnew, hmu⟩
      · rw [hch]; (repeat' (first | exact trivial | refine And.intro ?_ ?_ | exact Or.inl rfl | exact SubA.lsl ls | fail))
      · rw [hch]
        (repeat' (first | exact trivial | refine And.intro ?_ ?_ | fail))
        all_goals first
          | (refine SubA.lsl ?_; focus (simp; done))
          | (refine rowEq ?_; focus (simp; done))
          | (refine rowEq ?_; focus (rw [List.map_append]; rfl))
    · rw [if_pos (by apply List.eq_nil_of_length_eq_zero; omega)] at hch
      refine ⟨js ++ [j], Le.of ?_ ?_ rfl rfl rfl, hnew, hmu⟩
      · rw [hch]; (repeat' (first | exact trivial | refine And.intro ?_ ?_ | exact Or.inl rfl | fail))
      · rw [hch]; (repeat' (first | exact trivial | exact rfl | refine And.intro ?_ ?_ | fail))
end Go.Proofs.Ytinhhmnnfbeimaa
/- Facts: the reference's keys and changes. Conditions: none. -/
namespace Go.Proofs.Ytinhhmnnfbeimaa
open Go.Avc
theorem spN_new {dif : Nat → Bool} {n : Nat} (h : dif n = true) (hc : closed dif n) : spN dif (n + 1) = spN dif n ++ [((n : Int), (n : Int) + 1)] := by
  have := spN_run hc (m := 0) fun j hj => by rw [show j = 0 by omega]; exact h
  exact this
theorem spN_ext {dif : Nat → Bool} {n : Nat} {T : List (Int × Int)} {p : Int × Int} (h : dif n = true) (hT : spN dif n = T ++ [p]) (hp : p.2 = n) : spN dif (n + 1) = T ++ [(p.1, (n : Int) + 1)] := by
  unfold spN
  rw [if_pos h, hT]
  simp [hp]
theorem ext_rows (T : List (Int × Int)) (p : Int × Int) (v : Int) : ((T ++ [p]).map encPt).set T.length ((((T ++ [p]).map encPt).getD T.length []).set 1 (.int v)) = (T ++ [(p.1, v)]).map encPt := by
  simp [encPt, List.getD_eq_getElem?_getD]
def encKs (l : List Ky) : PV := .sl 3 (l.map encKy)
set_option maxRecDepth 20000
set_option maxHeartbeats 4000000
set_option linter.unusedSimpArgs false
attribute [local irreducible] PSub Wp PSpec Le Need Both
attribute [local irreducible] Fa.bef atF
theorem lessKey_spec (a b : Ky) : PSpec Try.prog 51 [.agg (encKy a), .agg (encKy b)] (.bool (decide (lessK a b))) := by
  refine PSpec.of_vc (fun Γ => more8 false Γ.P Γ.fx) (fun Γ => more8_ok) Try.func51 rfl Try.call51 (by simp) ?_
  rintro ⟨P, N, w0, X, β0, fx, y, hy, pk, df⟩ rfl rfl rfl hoff rfl; change y.on = false at hoff
  repeat' ((try conv => whnf); first | (first | refine k3 (fun hb => ?_) fun hb => ?_ | refine k4 (fun hb => ?_) fun hb => ?_) <;> (try rw [List.length_map] at hb) <;> (try (exfalso; omega; done)) | fail)
  all_goals refine PSub.of_eq (congrArg (fun b => PV.val (.bool b)) ?_)
  all_goals first | exact (decide_eq_false (by unfold lessK; omega)).symm | exact (decide_eq_true (by unfold lessK; omega)).symm | exact decide_eq_decide.2 (by unfold lessK; omega)
theorem differs_spec (l : List Fa) (k : Ky) (d : Nat) (b a : Int) (hl : l.length ≤ 100000) : PSpec Try.prog 44 [encFs l, .agg (encKy k), .int d, .int b, .int a] (.bool (difT l k b a d)) := by
  have q1 := rat_spec l k d b (by omega)
  have q2 := rat_spec l k d a (by omega)
  obtain ⟨x, hx⟩ : ∃ x, x = atF l k d b := ⟨_, rfl⟩
  obtain ⟨y, hy⟩ : ∃ x, x = atF l k d a := ⟨_, rfl⟩
  have e : difT l k b a d = !decide (x = y) := by rw [hx, hy]; rfl
  rw [← hx] at q1
  rw [← hy] at q2
  rw [e]
  clear hx hy e
  obtain ⟨v, ok⟩ := x
  obtain ⟨w, is⟩ := y
  refine PSpec.of_vc (fun Γ => more8 false Γ.P Γ.fx) (fun Γ => more8_ok) Try.func44 rfl Try.call44 (by simp) ?_
  rintro ⟨P, N, w0, X, β0, fx, y, hy, pk, df⟩ rfl rfl rfl hoff rfl; change y.on = false at hoff
  skip
  refine .inl ⟨_, q1, ?_⟩
  skip
  refine .inl ⟨_, q2, ?_⟩
  repeat' ((try conv => whnf); first | refine k1 (fun hb => ?_) fun hb => ?_ | fail)
  all_goals refine PSub.of_eq (congrArg (fun b => PV.val (.bool b)) ?_)
  all_goals simp_all
theorem keys_spec (l : List Fa) (hl : l.length ≤ 100000) : PSpec Try.prog 43 [encFs l] (encKs (keysF l)) := by
  refine PSpec.of_vc (fun Γ => more8 false Γ.P Γ.fx) (fun Γ => more8_ok) Try.func43 rfl Try.call43 (by simp) ?_
  rintro ⟨P, N, w0, X, β0, fx, y, hy, pk, df⟩ rfl rfl rfl hoff rfl; change y.on = false at hoff
  repeat' ((try conv => whnf); first | refine And.intro bd ?_ | fail)
  refine Wp.loop (fun i : Nat => ⟨[(0, .pure (encFs l)), (3, .lsl 7 0 (keysF (l.take i)).length), (4, .int i)], [(7, some (.row 3 ((keysF (l.take i)).map encKy)))], [7]⟩) (fun i => i ≤ l.length) (fun i => l.length - i) 0 (Le.of ?_ ?_ rfl rfl rfl) (Nat.zero_le _) ?_
  · (repeat' (first | exact trivial | refine And.intro ?_ ?_ | exact Or.inl rfl | fail))
  · (repeat' (first | exact trivial | exact rfl | refine And.intro ?_ ?_ | fail))
  intro i hi
  by_cases hi2 : i < l.length
  · have hst := keysF_take hi2
    have hol := keysF_len (l.take i)
    have hso := keysF_sorted (l.take i)
    rw [List.length_take] at hol
    obtain ⟨o, ho⟩ : ∃ o, o = keysF (l.take i) := ⟨_, rfl⟩
    rw [← ho] at hst hol hso ⊢
    have hom : (o.map encKy).length = o.length := List.length_map ..
    refine code_soundR (fun id => Nat.beq id 10) (more := more8 false _ _) more8_ok FOK.wide _ ?_
    repeat' ((try conv => whnf); first | (first | refine k3 (fun hb => ?_) fun hb => ?_ | refine k4 (fun hb => ?_) fun hb => ?_) <;> (try rw [List.length_map] at hb) <;> (try (exfalso; omega; done)) | fail)
    refine Wp.loop (fun n : Nat => ⟨[(0, .pure (encFs l)), (3, .lsl 7 0 o.length), (4, .int i), (5, .int n)], [(7, some (.row 3 (o.map encKy)))], [7]⟩) (fun n => n ≤ o.length ∧ ∀ j (h : j < o.length), j < n → lessK o[j] l[i].key) (fun n => o.length - n) 0 (Le.of ?_ ?_ rfl rfl rfl) ⟨Nat.zero_le _, fun j _ h => absurd h (Nat.not_lt_zero _)⟩ ?_
    · (repeat' (first | exact trivial | refine And.intro ?_ ?_ | exact Or.inl rfl | fail))
    · (repeat' (first | exact trivial | exact rfl | refine And.intro ?_ ?_ | fail))
    intro n ⟨hn, hbef⟩
    by_cases hn2 : n < o.length
    · have hgk : (o.map encKy)[n]? = some (encKy o[n]) := by simp [hn2]
      have hzn : 0 + ((n : Nat) : Int).toNat < o.length := by omega
      have hz : o[0 + ((n : Nat) : Int).toNat] = o[n] := by congr 1; omega
      have q := lessKey_spec o[0 + ((n : Nat) : Int).toNat] l[i].key
      have q2 := kyEq o[0 + ((n : Nat) : Int).toNat] l[i].key
      by_cases hlt : lessK o[n] l[i].key
      · rw [decide_eq_true (by rw [hz]; exact hlt)] at q
        refine code_sound (more := more8 false _ _) more8_ok FOK.wide _ ?_
        skip
        refine Wp.draw (more := more8 true _ _) more8_det more8_ok FOK.wide rfl (by decide +kernel) (by conv => lhs; reduce) ?_
        repeat' ((try conv => whnf); first | (first | refine k3 (fun hb => ?_) fun hb => ?_ | refine k4 (fun hb => ?_) fun hb => ?_) <;> (try rw [List.length_map] at hb) <;> (try (exfalso; omega; done)) | refine s5 nm nm ?_ | refine And.intro bd ?_ | refine .inl ⟨_, getMapN nm, rfl, rfl, ?_⟩ | fail)
        refine ⟨_, q, ?_⟩
        repeat' ((try conv => whnf); first | refine s4 nm ?_ | fail)
        refine ⟨n + 1, Le.of (by (repeat' (first | exact trivial | refine And.intro ?_ ?_ | exact Or.inl rfl | fail))) (by (repeat' (first | exact trivial | exact rfl | refine And.intro ?_ ?_ | fail))) rfl rfl rfl, ⟨by omega, fun j hj hjn => ?_⟩, by omega⟩
        by_cases e : j = n
        · subst e; exact hlt
        · exact hbef j hj (by omega)
      · rw [decide_eq_false (by rw [hz]; exact hlt)] at q
        have hpos := posK_eq hn hbef fun _ => hlt
        unfold insK at hst
        simp only [hpos, List.getElem?_eq_getElem hn2, Option.some.injEq] at hst
        by_cases heq : o[n] = l[i].key
        · rw [if_pos heq] at hst
          rw [decide_eq_true (by rw [hz]; exact heq)] at q2
          refine code_sound (more := more8 false _ _) more8_ok FOK.wide _ ?_
          skip
          refine Wp.draw (more := more8 true _ _) more8_det more8_ok FOK.wide rfl (by decide +kernel) (by conv => lhs; reduce) ?_
          repeat' ((try conv => whnf); first | (first | refine k3 (fun hb => ?_) fun hb => ?_ | refine k4 (fun hb => ?_) fun hb => ?_) <;> (try rw [List.length_map] at hb) <;> (try (exfalso; omega; done)) | refine s5 nm nm ?_ | refine And.intro bd ?_ | refine .inl ⟨_, getMapN nm, rfl, rfl, ?_⟩ | fail)
          refine ⟨_, q, ?_⟩
          skip
          refine Wp.draw (more := more8 true _ _) more8_det more8_ok FOK.wide rfl (by decide +kernel) (by conv => lhs; reduce) ?_
          repeat' ((try conv => whnf); first | (first | refine k3 (fun hb => ?_) fun hb => ?_ | refine k4 (fun hb => ?_) fun hb => ?_) <;> (try rw [List.length_map] at hb) <;> (try (exfalso; omega; done)) | refine s5 nm nm ?_ | refine And.intro bd ?_ | refine .inl ⟨_, getMapN nm, rfl, rfl, ?_⟩ | fail)
          refine ⟨_, q2, by first | exact isAg | exact isAp, by first | exact isAg | exact isAp, ?_⟩
          repeat' ((try conv => whnf); first | refine s4 nm ?_ | fail)
          refine ⟨i + 1, Le.of ?_ ?_ rfl rfl rfl, by omega, by omega⟩
          · rw [hst]; (repeat' (first | exact trivial | refine And.intro ?_ ?_ | exact Or.inl rfl | fail))
          · rw [hst]; (repeat' (first | exact trivial | exact rfl | refine And.intro ?_ ?_ | fail))
        · rw [if_neg heq] at hst
          rw [decide_eq_false (by rw [hz]; exact heq)] at q2
          refine code_sound (more := more8 false _ _) more8_ok FOK.wide _ ?_
          skip
          refine Wp.draw (more := more8 true _ _) more8_det more8_ok FOK.wide rfl (by decide +kernel) (by conv => lhs; reduce) ?_
          repeat' ((try conv => whnf); first | (first | refine k3 (fun hb => ?_) fun hb => ?_ | refine k4 (fun hb => ?_) fun hb => ?_) <;> (try rw [List.length_map] at hb) <;> (try (exfalso; omega; done)) | refine s5 nm nm ?_ | refine And.intro bd ?_ | refine .inl ⟨_, getMapN nm, rfl, rfl, ?_⟩ | fail)
          refine ⟨_, q, ?_⟩
          skip
          refine Wp.draw (more := more8 true _ _) more8_det more8_ok FOK.wide rfl (by decide +kernel) (by conv => lhs; reduce) ?_
          repeat' ((try conv => whnf); first | (first | refine k3 (fun hb => ?_) fun hb => ?_ | refine k4 (fun hb => ?_) fun hb => ?_) <;> (try rw [List.length_map] at hb) <;> (try (exfalso; omega; done)) | refine s5 nm nm ?_ | refine And.intro bd ?_ | refine .inl ⟨_, getMapN nm, rfl, rfl, ?_⟩ | fail)
          refine ⟨_, q2, by first | exact isAg | exact isAp, by first | exact isAg | exact isAp, ?_⟩
          skip
          refine Wp.draw (more := more8 true _ _) more8_det more8_ok FOK.wide rfl (by decide +kernel) (by conv => lhs; reduce) ?_
          repeat' ((try conv => whnf); first | refine And.intro rfl ?_ | refine s5 nm nm ?_ | refine And.intro bd ?_ | fail)
          refine Wp.mid [_, _, _, _] (l2 := [_, _, _]) (more := more8 false _ _) more8_ok FOK.wide rfl ?_
          repeat' ((try conv => whnf); first | refine And.intro bd ?_ | fail)
          have htl : (o.take n).length = n := by rw [List.length_take]; omega
          have htm : ((o.take n).map encKy).length = n := by rw [List.length_map]; exact htl
          have hdl : (o.drop n).length = o.length - n := List.length_drop ..
          refine ⟨⟨[(61, .lsl 7 0 n), (0, .pure (encFs l)), (4, .int i), (6, .lsl 57 0 (1 + (o.length - n)))], [(7, some (.row 3 ((o.take n).map encKy))), (57, some (.row 3 (encKy l[i].key :: (o.drop n).map encKy)))], [7, 57]⟩, Le.trans (Le.of (s' := ⟨(61, .lsl 7 0 n) :: [(0, .pure (encFs l)), (4, .int i), (6, .lsl 57 0 (1 + (o.length - n)))], (7, some (.row 3 (o.map encKy))) :: [(57, some (.row 3 (encKy l[i].key :: (o.drop n).map encKy)))], [7, 57]⟩) ?_ ?_ rfl rfl rfl) (Le.trans (Le.trunc rfl rfl rfl (by rw [hom]; omega)) (Le.of ?_ ?_ rfl rfl rfl)), ?_⟩
          · (repeat' (first | exact trivial | refine And.intro ?_ ?_ | exact Or.inl rfl | exact SubA.lsl ls | fail))
            all_goals (refine SubA.lsl ?_; simp; omega)
          · (repeat' (first | exact trivial | exact rfl | refine And.intro ?_ ?_ | fail))
            all_goals
              refine rowEq ?_
              rw [show 0 + ((n : Nat) : Int).toNat = n by omega, List.take_of_length_le (by simp), List.map_drop]
              rfl
          · (repeat' (first | exact trivial | refine And.intro ?_ ?_ | exact Or.inl rfl | fail))
          · (repeat' (first | exact trivial | exact rfl | refine And.intro ?_ ?_ | exact rowEq rs | fail))
            all_goals (refine rowEq ?_; rw [List.map_take])
          repeat' ((try conv => whnf); first | refine s4 nm ?_ | refine And.intro bd ?_ | fail)
          have hrow : (o.take n).map encKy ++ List.take (1 + (o.length - n)) (List.drop 0 (encKy l[i].key :: (o.drop n).map encKy)) = ((o.take n) ++ l[i].key :: o.drop n).map encKy := by
            rw [List.drop_zero, List.take_of_length_le (show (encKy l[i].key :: (o.drop n).map encKy).length ≤ 1 + (o.length - n) by rw [List.length_cons, List.length_map, hdl]; omega), List.map_append, List.map_cons]
          refine ⟨i + 1, Le.map [(7, 63), (63, 7)] ?_ ?_ rfl rfl rfl rfl, by omega, by omega⟩
          · rw [hst]
            (repeat' (first | exact trivial | refine And.intro ?_ ?_ | exact Or.inl rfl | exact SubA.lsl ls | fail))
            all_goals first
              | (refine SubA.lsl ?_; rw [← List.length_append, hrow, List.length_map])
              | (refine rowEq ?_; exact hrow)
          · rw [hst]
            (repeat' (first | exact trivial | refine And.intro ?_ ?_ | fail))
            all_goals first
              | (refine SubA.lsl ?_; rw [← List.length_append, hrow, List.length_map])
              | (refine rowEq ?_; exact hrow)
    · have en : n = o.length := by omega
      have hpos := posK_eq hn hbef fun h => absurd h (by omega)
      unfold insK at hst
      simp only [hpos, List.getElem?_eq_none (show o.length ≤ n by omega)] at hst
      rw [if_neg (by simp)] at hst
      refine code_sound (more := more8 false _ _) more8_ok FOK.wide _ ?_
      skip
      refine Wp.draw (more := more8 true _ _) more8_det more8_ok FOK.wide rfl (by decide +kernel) (by conv => lhs; reduce) ?_
      repeat' ((try conv => whnf); first | (first | refine k3 (fun hb => ?_) fun hb => ?_ | refine k4 (fun hb => ?_) fun hb => ?_) <;> (try rw [List.length_map] at hb) <;> (try (exfalso; omega; done)) | fail)
      refine Wp.draw (more := more8 true _ _) more8_det more8_ok FOK.wide rfl (by decide +kernel) (by conv => lhs; reduce) ?_
      repeat' ((try conv => whnf); first | (first | refine k3 (fun hb => ?_) fun hb => ?_ | refine k4 (fun hb => ?_) fun hb => ?_) <;> (try rw [List.length_map] at hb) <;> (try (exfalso; omega; done)) | fail)
      refine Wp.draw (more := more8 true _ _) more8_det more8_ok FOK.wide rfl (by decide +kernel) (by conv => lhs; reduce) ?_
      repeat' ((try conv => whnf); first | refine And.intro rfl ?_ | refine s5 nm nm ?_ | refine And.intro bd ?_ | fail)
      refine Wp.mid [_, _, _, _] (l2 := [_, _, _]) (more := more8 false _ _) more8_ok FOK.wide rfl ?_
      repeat' ((try conv => whnf); first | refine And.intro bd ?_ | fail)
      have htl : (o.take n).length = n := by rw [List.length_take]; omega
      have htm : ((o.take n).map encKy).length = n := by rw [List.length_map]; exact htl
      have hdl : (o.drop n).length = o.length - n := List.length_drop ..
      refine ⟨⟨[(61, .lsl 7 0 n), (0, .pure (encFs l)), (4, .int i), (6, .lsl 57 0 (1 + (o.length - n)))], [(7, some (.row 3 ((o.take n).map encKy))), (57, some (.row 3 (encKy l[i].key :: (o.drop n).map encKy)))], [7, 57]⟩, Le.trans (Le.of (s' := ⟨(61, .lsl 7 0 n) :: [(0, .pure (encFs l)), (4, .int i), (6, .lsl 57 0 (1 + (o.length - n)))], (7, some (.row 3 (o.map encKy))) :: [(57, some (.row 3 (encKy l[i].key :: (o.drop n).map encKy)))], [7, 57]⟩) ?_ ?_ rfl rfl rfl) (Le.trans (Le.trunc rfl rfl rfl (by rw [hom]; omega)) (Le.of ?_ ?_ rfl rfl rfl)), ?_⟩
      · (repeat' (first | exact trivial | refine And.intro ?_ ?_ | exact Or.inl rfl | exact SubA.lsl ls | fail))
        all_goals (refine SubA.lsl ?_; simp; omega)
      · (repeat' (first | exact trivial | exact rfl | refine And.intro ?_ ?_ | fail))
        all_goals
          refine rowEq ?_
          rw [show 0 + ((n : Nat) : Int).toNat = n by omega, List.take_of_length_le (by simp), List.map_drop]
          rfl
      · (repeat' (first | exact trivial | refine And.intro ?_ ?_ | exact Or.inl rfl | fail))
      · (repeat' (first | exact trivial | exact rfl | refine And.intro ?_ ?_ | exact rowEq rs | fail))
        all_goals (refine rowEq ?_; rw [List.map_take])
      repeat' ((try conv => whnf); first | refine s4 nm ?_ | refine And.intro bd ?_ | fail)
      have hrow : (o.take n).map encKy ++ List.take (1 + (o.length - n)) (List.drop 0 (encKy l[i].key :: (o.drop n).map encKy)) = ((o.take n) ++ l[i].key :: o.drop n).map encKy := by
        rw [List.drop_zero, List.take_of_length_le (show (encKy l[i].key :: (o.drop n).map encKy).length ≤ 1 + (o.length - n) by rw [List.length_cons, List.length_map, hdl]; omega), List.map_append, List.map_cons]
      refine ⟨i + 1, Le.map [(7, 63), (63, 7)] ?_ ?_ rfl rfl rfl rfl, by omega, by omega⟩
      · rw [hst]
        (repeat' (first | exact trivial | refine And.intro ?_ ?_ | exact Or.inl rfl | exact SubA.lsl ls | fail))
        all_goals first
          | (refine SubA.lsl ?_; rw [← List.length_append, hrow, List.length_map])
          | (refine rowEq ?_; exact hrow)
      · rw [hst]
        (repeat' (first | exact trivial | refine And.intro ?_ ?_ | fail))
        all_goals first
          | (refine SubA.lsl ?_; rw [← List.length_append, hrow, List.length_map])
          | (refine rowEq ?_; exact hrow)
  · refine code_sound (more := more8 false _ _) more8_ok FOK.wide _ ?_
    repeat' ((try conv => whnf); first | (first | refine k3 (fun hb => ?_) fun hb => ?_ | refine k4 (fun hb => ?_) fun hb => ?_) <;> (try rw [List.length_map] at hb) <;> (try (exfalso; omega; done)) | fail)
    exact sub_sl (by rw [List.drop_zero, List.take_of_length_le (by simp), show i = l.length by omega, List.take_of_length_le (Nat.le_refl _)])
theorem rchanged_spec (l : List Fa) (b a : Int) (hl : l.length ≤ 100000) : PSpec Try.prog 25 [encFs l, .int b, .int a] (encDfs (chF l b a)) := by
  have qk := keys_spec l hl
  have hkl := keysF_len l
  obtain ⟨ks, hks⟩ : ∃ ks, ks = keysF l := ⟨_, rfl⟩
  have hch : chF l b a = chL l b a ks := by rw [hks]; rfl
  rw [← hks] at qk hkl
  rw [hch]
  clear hch hks
  have hkm : (ks.map encKy).length = ks.length := List.length_map ..
  refine PSpec.of_vc (fun Γ => more8 false Γ.P Γ.fx) (fun Γ => more8_ok) Try.func25 rfl Try.call25 (by simp) ?_
  rintro ⟨P, N, w0, X, β0, fx, y, hy, pk, df⟩ rfl rfl rfl hoff rfl; change y.on = false at hoff
  repeat' ((try conv => whnf); first | refine And.intro bd ?_ | fail)
  refine .inl ⟨_, qk, ?_⟩
  repeat' ((try conv => whnf); first | refine And.intro rfl ?_ | fail)
  refine Wp.loop (fun i : Nat => ⟨[(0, .pure (encFs l)), (1, .int b), (2, .int a), (7, .lsl 13 0 (chL l b a (ks.take i)).length), (8, .pure (encKs ks)), (9, .int i)], [(13, some (.row 4 ((chL l b a (ks.take i)).map encDf)))], [13]⟩) (fun i => i ≤ ks.length) (fun i => ks.length - i) 0 (Le.of ?_ ?_ rfl rfl rfl) (Nat.zero_le _) ?_
  · (repeat' (first | exact trivial | refine And.intro ?_ ?_ | exact Or.inl rfl | fail))
  · (repeat' (first | exact trivial | exact rfl | refine And.intro ?_ ?_ | fail))
  intro i hi
  by_cases hi2 : i < ks.length
  · have hst := chL_snoc l b a (ks.take i) ks[i]
    rw [← List.take_succ_eq_append_getElem hi2] at hst
    have hcl := chL_len l b a (ks.take i)
    rw [List.length_take] at hcl
    rw [ddF_eq] at hst
    obtain ⟨c, hc⟩ : ∃ c, c = chL l b a (ks.take i) := ⟨_, rfl⟩
    rw [← hc] at hst hcl ⊢
    have hgi : (ks.map encKy)[i]? = some (encKy ks[i]) := by simp [hi2]
    obtain ⟨dif, hdif⟩ : ∃ f, f = difT l ks[i] b a := ⟨_, rfl⟩
    rw [← hdif] at hst
    have qd : ∀ d : Nat, PSpec Try.prog 44 [encFs l, .agg (encKy ks[i]), .int d, .int b, .int a] (.bool (dif d)) := fun d => by rw [hdif]; exact differs_spec l ks[i] d b a hl
    clear hdif
    refine code_sound (more := more8 false _ _) more8_ok FOK.wide _ ?_
    repeat' ((try conv => whnf); first | (first | refine k3 (fun hb => ?_) fun hb => ?_ | refine k4 (fun hb => ?_) fun hb => ?_) <;> (try rw [List.length_map] at hb) <;> (try (exfalso; omega; done)) | refine And.intro bd ?_ | fail)
    refine Wp.loop (fun d : Nat => ⟨[(0, .pure (encFs l)), (1, .int b), (2, .int a), (7, .lsl 13 0 c.length), (8, .pure (encKs ks)), (9, .int i), (10, .lsl 22 0 (spN dif d).length), (11, .int d)], [(13, some (.row 4 (c.map encDf))), (22, some (.row 2 ((spN dif d).map encPt)))], [13, 22]⟩) (fun d => d ≤ 1024) (fun d => 1024 - d) 0 (Le.of ?_ ?_ rfl rfl rfl) (Nat.zero_le _) ?_
    · (repeat' (first | exact trivial | refine And.intro ?_ ?_ | exact Or.inl rfl | fail))
    · (repeat' (first | exact trivial | exact rfl | refine And.intro ?_ ?_ | fail))
    intro d hd
    have hsl := spN_len dif d
    by_cases hd2 : d < 1024
    · have q := qd d
      obtain ⟨S, hS⟩ : ∃ S, S = spN dif d := ⟨_, rfl⟩
      rw [← hS] at hsl ⊢
      have hSm : (S.map encPt).length = S.length := List.length_map ..
      cases hdd : dif d with
      | false =>
        rw [hdd] at q
        have hno := spN_no hdd
        rw [← hS] at hno
        refine code_sound (more := more8 false _ _) more8_ok FOK.wide _ ?_
        repeat' ((try conv => whnf); first | (first | refine k3 (fun hb => ?_) fun hb => ?_ | refine k4 (fun hb => ?_) fun hb => ?_) <;> (try rw [List.length_map] at hb) <;> (try (exfalso; omega; done)) | refine s5 nm nm ?_ | fail)
        refine .inl ⟨_, q, ?_⟩
        repeat' ((try conv => whnf); first | refine s4 nm ?_ | fail)
        refine ⟨d + 1, Le.of ?_ ?_ rfl rfl rfl, by omega, by omega⟩
        · rw [hno]; (repeat' (first | exact trivial | refine And.intro ?_ ?_ | exact Or.inl rfl | fail))
        · rw [hno]; (repeat' (first | exact trivial | exact rfl | refine And.intro ?_ ?_ | fail))
      | true =>
        rw [hdd] at q
        by_cases hS0 : S = []
        · have hn := spN_new hdd (fun p hp => by rw [← hS, hS0] at hp; cases hp)
          rw [← hS] at hn
          have hSl : S.length = 0 := by rw [hS0]; rfl
          refine code_sound (more := more8 false _ _) more8_ok FOK.wide _ ?_
          repeat' ((try conv => whnf); first | (first | refine k3 (fun hb => ?_) fun hb => ?_ | refine k4 (fun hb => ?_) fun hb => ?_) <;> (try rw [List.length_map] at hb) <;> (try (exfalso; omega; done)) | refine s5 nm nm ?_ | fail)
          refine .inl ⟨_, q, ?_⟩
          repeat' ((try conv => whnf); first | (first | refine k3 (fun hb => ?_) fun hb => ?_ | refine k4 (fun hb => ?_) fun hb => ?_) <;> (try rw [List.length_map] at hb) <;> (try (exfalso; omega; done)) | refine s4 nm ?_ | refine And.intro bd ?_ | fail)
          refine ⟨d + 1, Le.map [(22, 64)] ?_ ?_ rfl rfl rfl rfl, by omega, by omega⟩
          · rw [hn]
            (repeat' (first | exact trivial | refine And.intro ?_ ?_ | exact Or.inl rfl | exact SubA.lsl ls | fail))
            all_goals first
              | (refine SubA.lsl ?_; focus (simp; done))
              | (refine rowEq ?_; focus (rw [List.map_append]; rfl))
          · rw [hn]
            (repeat' (first | exact trivial | exact rfl | refine And.intro ?_ ?_ | fail))
            all_goals first
              | (refine SubA.lsl ?_; focus (simp; done))
              | (refine rowEq ?_; focus (rw [List.map_append]; rfl))
        · obtain ⟨T, p, hS2⟩ : ∃ T p, S = T ++ [p] := ⟨S.dropLast, S.getLast hS0, (List.dropLast_concat_getLast hS0).symm⟩
          have hSl : S.length = T.length + 1 := by rw [hS2]; simp
          have hix : 0 + (((S.length : Nat) : Int) - 1).toNat = T.length := by omega
          have hlast : (S[0 + (((S.length : Nat) : Int) - 1).toNat]'(by omega)) = p := by
            simp only [hix]
            simp [hS2]
          by_cases hpd : p.2 = d
          · have hn := spN_ext hdd (by rw [← hS]; exact hS2) hpd
            have hls : (S[0 + (((S.length : Nat) : Int) - 1).toNat]'(by omega)).2 = d := by rw [hlast]; exact hpd
            refine code_sound (more := more8 false _ _) more8_ok FOK.wide _ ?_
            repeat' ((try conv => whnf); first | (first | refine k3 (fun hb => ?_) fun hb => ?_ | refine k4 (fun hb => ?_) fun hb => ?_) <;> (try rw [List.length_map] at hb) <;> (try (exfalso; omega; done)) | refine s5 nm nm ?_ | fail)
            refine .inl ⟨_, q, ?_⟩
            repeat' ((try conv => whnf); first | (first | refine k3 (fun hb => ?_) fun hb => ?_ | refine k4 (fun hb => ?_) fun hb => ?_) <;> (try rw [List.length_map] at hb) <;> (try (exfalso; omega; done)) | refine And.intro rfl ?_ | refine s4 nm ?_ | refine And.intro bd ?_ | refine ⟨_, _, getMapN nm, rfl, ?_⟩ | refine ⟨_, set_rfl _ _ _, ?_⟩ | fail)
            refine ⟨d + 1, Le.of ?_ ?_ rfl rfl rfl, by omega, by omega⟩
            · rw [hn]
              (repeat' (first | exact trivial | refine And.intro ?_ ?_ | exact Or.inl rfl | exact SubA.lsl ls | fail))
              all_goals (refine SubA.lsl ?_; rw [hSl]; simp)
            · rw [hn]
              (repeat' (first | exact trivial | exact rfl | refine And.intro ?_ ?_ | fail))
              all_goals first
                | (refine rowEq ?_; simp only [hix]; rw [hS2]; exact ext_rows T p _)
                | skip
          · have hn := spN_new hdd (fun p' hp' => by
              rw [← hS, hS2, List.getLast?_concat] at hp'
              cases hp'; exact hpd)
            rw [← hS] at hn
            have hls : ¬ (S[0 + (((S.length : Nat) : Int) - 1).toNat]'(by omega)).2 = d := by rw [hlast]; exact hpd
            refine code_sound (more := more8 false _ _) more8_ok FOK.wide _ ?_
            repeat' ((try conv => whnf); first | (first | refine k3 (fun hb => ?_) fun hb => ?_ | refine k4 (fun hb => ?_) fun hb => ?_) <;> (try rw [List.length_map] at hb) <;> (try (exfalso; omega; done)) | refine s5 nm nm ?_ | fail)
            refine .inl ⟨_, q, ?_⟩
            repeat' ((try conv => whnf); first | (first | refine k3 (fun hb => ?_) fun hb => ?_ | refine k4 (fun hb => ?_) fun hb => ?_) <;> (try rw [List.length_map] at hb) <;> (try (exfalso; omega; done)) | refine s4 nm ?_ | refine And.intro bd ?_ | refine ⟨_, _, getMapN nm, rfl, ?_⟩ | fail)
            refine ⟨d + 1, Le.map [(22, 64)] ?_ ?_ rfl rfl rfl rfl, by omega, by omega⟩
            · rw [hn]
              (repeat' (first | exact trivial | refine And.intro ?_ ?_ | exact Or.inl rfl | exact SubA.lsl ls | fail))
              all_goals first
                | (refine SubA.lsl ?_; focus (simp; done))
                | (refine rowEq ?_; focus (rw [List.map_append]; rfl))
            · rw [hn]
              (repeat' (first | exact trivial | exact rfl | refine And.intro ?_ ?_ | fail))
              all_goals first
                | (refine SubA.lsl ?_; focus (simp; done))
                | (refine rowEq ?_; focus (rw [List.map_append]; rfl))
    · have ed : d = 1024 := by omega
      subst ed
      obtain ⟨S, hS⟩ : ∃ S, S = spN dif 1024 := ⟨_, rfl⟩
      rw [← hS] at hsl hst ⊢
      refine code_sound (more := more8 false _ _) more8_ok FOK.wide _ ?_
      repeat' ((try conv => whnf); first | (first | refine k3 (fun hb => ?_) fun hb => ?_ | refine k4 (fun hb => ?_) fun hb => ?_) <;> (try rw [List.length_map] at hb) <;> (try (exfalso; omega; done)) | refine s4 nm ?_ | refine s5 nm nm ?_ | refine And.intro bd ?_ | fail)
      · have hne : S ≠ [] := fun h => by have := congrArg List.length h; rw [List.length_nil] at this; omega
        rw [if_neg hne] at hst
        have hrow : c.map encDf ++ List.take 1 (List.drop 0 [[PV.int ks[i].kind, .int ks[i].subj, .int ks[i].obj, .sl 2 (List.take S.length (List.drop 0 (S.map encPt)))]]) = (c ++ [(ks[i], S)]).map encDf := by
          rw [List.drop_zero, List.drop_zero, List.take_of_length_le (l := S.map encPt) (by simp), List.map_append]
          rfl
        refine ⟨i + 1, Le.map [(13, 76)] ?_ ?_ rfl rfl rfl rfl, by omega, by omega⟩
        · rw [hst]
          (repeat' (first | exact trivial | refine And.intro ?_ ?_ | exact Or.inl rfl | exact SubA.lsl ls | fail))
          all_goals first
            | (refine SubA.lsl ?_; focus (simp; done))
            | (refine rowEq ?_; exact hrow)
        · rw [hst]
          (repeat' (first | exact trivial | refine And.intro ?_ ?_ | fail))
          all_goals first
            | (refine SubA.lsl ?_; focus (simp; done))
            | (refine rowEq ?_; exact hrow)
      · have hne : S = [] := List.eq_nil_of_length_eq_zero (by omega)
        rw [if_pos hne] at hst
        refine ⟨i + 1, Le.of ?_ ?_ rfl rfl rfl, by omega, by omega⟩
        · rw [hst]; (repeat' (first | exact trivial | refine And.intro ?_ ?_ | exact Or.inl rfl | fail))
        · rw [hst]; (repeat' (first | exact trivial | exact rfl | refine And.intro ?_ ?_ | fail))
  · have e : i = ks.length := by omega
    subst e
    rw [List.take_of_length_le (Nat.le_refl _)]
    refine code_sound (more := more8 false _ _) more8_ok FOK.wide _ ?_
    repeat' ((try conv => whnf); first | (first | refine k3 (fun hb => ?_) fun hb => ?_ | refine k4 (fun hb => ?_) fun hb => ?_) <;> (try rw [List.length_map] at hb) <;> (try (exfalso; omega; done)) | fail)
    exact sub_sl (by rw [List.drop_zero, List.take_of_length_le (by simp)])
end Go.Proofs.Ytinhhmnnfbeimaa
