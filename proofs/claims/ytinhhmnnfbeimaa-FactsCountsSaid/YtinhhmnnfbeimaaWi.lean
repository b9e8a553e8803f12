/- Facts: what was read is alike at two times. Conditions: none. -/
import Derived.Test.YtinhhmnnfbeimaaWd
import Derived.Test.YtinhhmnnfbeimaaWh
set_option linter.unusedSimpArgs false
set_option linter.unusedVariables false
namespace Go.Proofs.Ytinhhmnnfbeimaa
open Go.Avc
def ofKey (l : List Fa) (k : Ky) : List Fa := l.filter fun f => decide (f.key = k)
theorem grw_fac (l : List Fa) (k : Ky) : grw (facL l) k = (ofKey l k).map encFa := by
  unfold grw facL ofKey
  induction l with
  | nil => rfl
  | cons f l ih =>
    simp only [List.map_cons, List.filter_cons]
    by_cases h : f.key = k
    · simp [h, ih]
    · simp [h, ih]
theorem abt_key (l : List Fa) (k : Ky) (kn : Int) : abtF (ofKey l k) k kn = abtF l k kn := by
  unfold abtF ofKey
  rw [List.filter_filter]
  congr 1
  funext f
  unfold abt
  by_cases h : f.key = k <;> simp [h]
theorem pnt_key (l : List Fa) (k : Ky) (kn : Int) : pntL (ofKey l k) k kn = pntL l k kn := by
  unfold pntL pnt atF bestF
  simp only [abt_key]
def grpM (l : List Fa) : List (Ky × PV) := (gks (facL l)).map fun k => (k, .sl 8 (grw (facL l) k))
theorem mget_map {α : Type} [DecidableEq α] (ks : List α) (g : α → PV) (a : α) : mget (ks.map fun k => (k, g k)) a = if a ∈ ks then some (g a) else none := by
  induction ks with
  | nil => rfl
  | cons k ks ih =>
    unfold mget at ih ⊢
    by_cases h : k = a
    · subst h; simp
    · simp only [List.map_cons, List.find?_cons, h, decide_false]
      rw [ih]
      simp [Ne.symm h]
theorem grp_get (l : List Fa) (k : Ky) : (mget (grpM l) k).getD (.sl 8 []) = encFs (ofKey l k) := by
  unfold grpM
  rw [mget_map]
  split
  · rw [Option.getD_some, grw_fac]; rfl
  · rename_i h
    have := grw_none h
    rw [grw_fac] at this
    rw [Option.getD_none]
    show PV.sl 8 [] = .sl 8 _
    rw [this]
theorem grpM_is (l : List Fa) : (gks (facL l)).map kyK.val = (grpM l).map (fun q => kyK.val q.1) ∧ ((gks (facL l)).map fun k => PV.sl 8 (grw (facL l) k)) = (grpM l).map (·.2) := by
  unfold grpM
  constructor <;> (rw [List.map_map]; rfl)
theorem pntL_len (l : List Fa) (k : Ky) (kn : Int) : (pntL l k kn).length = 1024 := by simp [pntL]
theorem mget_mput' {α : Type} [DecidableEq α] (ms : List (α × PV)) (a b : α) (v : PV) : mget (mput ms a v) b = if b = a then some v else mget ms b := by
  induction ms with
  | nil => by_cases h : b = a <;> simp [mput, mget, h, eq_comm]
  | cons q ms ih =>
    by_cases hq : q.1 = a
    · rw [mput, if_pos hq]
      by_cases h : b = a
      · simp [mget, h]
      · have h1 : ¬ a = b := fun e => h e.symm
        have h2 : ¬ q.1 = b := fun e => h (by rw [← e, hq])
        simp [mget, h, h1, h2]
    · rw [mput, if_neg hq]
      by_cases h2 : q.1 = b
      · have h : ¬ b = a := fun e => hq (h2.trans e)
        simp [mget, h2, h]
      · have e1 : mget (q :: mput ms a v) b = mget (mput ms a v) b := by simp [mget, h2]
        have e2 : mget (q :: ms) b = mget ms b := by simp [mget, h2]
        rw [e1, e2, ih]
/-- The spans of the days on which a key is known differently at two times. -/
def ddF (l : List Fa) (k : Ky) (b a : Int) : List (Int × Int) := diffF (pntL l k b) (pntL l k a)
def hitS (r : Rd) (p : Int × Int) : Prop := max p.1 r.lo < min p.2 r.hi
instance (r : Rd) (p : Int × Int) : Decidable (hitS r p) := by unfold hitS; infer_instance
def alikeR (l : List Fa) (b a : Int) (r : Rd) : Prop := ∀ p ∈ ddF l r.key b a, ¬ hitS r p
instance (l : List Fa) (b a : Int) (r : Rd) : Decidable (alikeR l b a r) := by unfold alikeR; infer_instance
def alikeF (l : List Fa) (rs : List Rd) (b a : Int) : Bool := rs.all fun r => decide (alikeR l b a r)
def dmOK (l : List Fa) (b a : Int) (dm : List (Ky × PV)) : Prop := ∀ k, mget dm k = none ∨ mget dm k = some (encPts (ddF l k b a))
set_option maxRecDepth 20000
set_option maxHeartbeats 4000000
set_option linter.unusedSimpArgs false
attribute [local irreducible] PSub Wp PSpec Le Need Both
attribute [local irreducible] Fa.bef atF pntL diffF alikeR
theorem alike_spec (l : List Fa) (rds : List Rd) (b a : Int) (hl : l.length ≤ 100000) (hr : rds.length ≤ 1000000) : PSpec Try.prog 26 [encFs l, encRds rds, .int b, .int a] (.bool (alikeF l rds b a)) := by
  have qg := group_spec l (by omega)
  have hok : kyK.ok Try.prog 24 = true := by kernel_rfl
  have hrl : (rds.map encRd).length = rds.length := List.length_map ..
  obtain ⟨res, hres⟩ : ∃ r, r = alikeF l rds b a := ⟨_, rfl⟩
  rw [← hres]
  have hbad : ∀ i (h : i < rds.length), ¬ alikeR l b a rds[i] → PSub (.val (.bool false)) (.bool res) := fun i h hn => by
    have e : res = false := by
      rw [hres, Bool.eq_false_iff]
      intro h'
      unfold alikeF at h'
      rw [List.all_eq_true] at h'
      exact hn (of_decide_eq_true (h' _ (List.getElem_mem h)))
    rw [e]; exact PSub.refl _
  have hall : (∀ i (h : i < rds.length), alikeR l b a rds[i]) → PSub (.val (.bool true)) (.bool res) := fun h => by
    have e : res = true := by
      rw [hres]
      unfold alikeF
      rw [List.all_eq_true]
      intro x hx
      obtain ⟨i, hi, rfl⟩ := List.getElem_of_mem hx
      exact decide_eq_true (h i hi)
    rw [e]; exact PSub.refl _
  clear hres
  refine PSpec.of_vc (fun Γ => more8 false Γ.P Γ.fx) (fun Γ => more8_ok) Try.func26 rfl Try.call26 (by simp) ?_
  rintro ⟨P, N, w0, X, β0, fx, y, hy, pk, df⟩ rfl rfl rfl hoff rfl; change y.on = false at hoff
  skip
  refine .inl ⟨_, qg, ?_⟩
  repeat' ((try conv => whnf); first | refine And.intro rfl ?_ | fail)
  refine Wp.loop (fun y : Nat × List (Ky × PV) => ⟨[(2, .int b), (3, .int a), (9, .pure (grpPV l)), (10, .mp 20), (21, .pure (encRds rds)), (22, .int rds.length), (23, .int y.1)], [(20, some (.mp (kyK.enc y.2)))], [20]⟩)
    (fun y => y.1 ≤ rds.length ∧ dmOK l b a y.2 ∧ ∀ j (h : j < rds.length), j < y.1 → alikeR l b a rds[j]) (fun y => rds.length - y.1) (0, []) (Le.of ?_ ?_ rfl rfl rfl) ⟨Nat.zero_le _, fun k => .inl rfl, fun j _ h => absurd h (Nat.not_lt_zero _)⟩ ?_
  · (repeat' (first | exact trivial | refine And.intro ?_ ?_ | exact Or.inl rfl | exact l1 bd | fail))
  · (repeat' (first | exact trivial | exact rfl | refine And.intro ?_ ?_ | fail))
  rintro ⟨i, dm⟩ ⟨hi, hdm, hgood⟩
  dsimp only at hi hdm hgood ⊢
  by_cases hi2 : i < rds.length
  · obtain ⟨D, hD⟩ : ∃ D, D = ddF l rds[i].key b a := ⟨_, rfl⟩
    have hdl : D.length ≤ 1024 := by rw [hD]; unfold ddF diffF; exact spN_len _ _
    have hDl : (D.map encPt).length = D.length := List.length_map ..
    have hdm0 := hdm rds[i].key
    rw [← hD] at hdm0
    rcases hdm0 with hn | hs
    · have g1 := grp_get l rds[i].key
      have p1 := paint_spec (ofKey l rds[i].key) rds[i].key b (by unfold ofKey; have := List.length_filter_le (fun f => decide (f.key = rds[i].key)) l; omega)
      have p2 := paint_spec (ofKey l rds[i].key) rds[i].key a (by unfold ofKey; have := List.length_filter_le (fun f => decide (f.key = rds[i].key)) l; omega)
      rw [pnt_key] at p1 p2
      have p3 := diff_spec (pntL l rds[i].key b) (pntL l rds[i].key a) (pntL_len ..) (pntL_len ..)
      rw [show diffF (pntL l rds[i].key b) (pntL l rds[i].key a) = D by rw [hD]; rfl] at p3
      obtain ⟨dm', hdm'⟩ : ∃ x, mput dm rds[i].key (encPts D) = x := ⟨_, rfl⟩
      have hget' : ∀ z, (mget dm' rds[i].key).getD z = encPts D := fun z => by rw [← hdm', mget_mput', if_pos rfl]; rfl
      have hdmn : dmOK l b a dm' := fun k => by
        rw [← hdm', mget_mput']
        split
        · rename_i e; subst e; rw [hD]; exact .inr rfl
        · exact hdm k
      refine code_sound (more := more8 false _ _) more8_ok FOK.wide _ ?_
      repeat' ((try conv => whnf); first | (first | refine k3 (fun hb => ?_) fun hb => ?_ | refine k4 (fun hb => ?_) fun hb => ?_) <;> (try rw [List.length_map] at hb) <;> (try (exfalso; omega; done)) | refine And.intro rfl ?_ | refine s5 nm nm ?_ | fail)
      refine ⟨_, inferInstance, kyK, rds[i].key, dm, hok, rfl, rfl, _, _, by rw [hn], by rw [hn], ?_⟩
      skip
      refine Wp.draw (more := more8 true _ _) more8_det more8_ok FOK.wide rfl (by decide +kernel) (by conv => lhs; reduce) ?_
      skip
      refine ⟨_, inferInstance, kyK, rds[i].key, grpM l, hok, rfl, grpM_is l, _, g1, ?_⟩
      skip
      refine ⟨_, p1, ?_⟩
      repeat' ((try conv => whnf); first | refine And.intro rfl ?_ | fail)
      refine ⟨_, inferInstance, kyK, rds[i].key, grpM l, hok, rfl, grpM_is l, _, g1, ?_⟩
      skip
      refine ⟨_, p2, ?_⟩
      repeat' ((try conv => whnf); first | refine And.intro rfl ?_ | fail)
      refine ⟨_, p3, ?_⟩
      repeat' ((try conv => whnf); first | refine And.intro rfl ?_ | fail)
      refine ⟨_, inferInstance, kyK, rds[i].key, dm, dm', hok, rfl, rfl, hdm', ?_⟩
      skip
      refine ⟨_, inferInstance, kyK, rds[i].key, dm', hok, rfl, rfl, _, hget' _, ?_⟩
      skip
      refine Wp.loop (fun m : Nat => ⟨[(2, .int b), (3, .int a), (9, .pure (grpPV l)), (10, .mp 20), (12, .loc 12 0 0), (21, .pure (encRds rds)), (22, .int rds.length), (23, .int i), (54, .pure (encPts D)), (55, .int D.length), (56, .int m)], [(20, some (.mp (kyK.enc dm'))), (12, some (.box (pures (encRd rds[i]))))], [20, 12]⟩)
        (fun m => m ≤ D.length ∧ ∀ j (h : j < D.length), j < m → ¬ hitS rds[i] D[j]) (fun m => D.length - m) 0 (Le.of ?_ ?_ rfl rfl rfl) ⟨Nat.zero_le _, fun j _ h => absurd h (Nat.not_lt_zero _)⟩ ?_
      · (repeat' (first | exact trivial | refine And.intro ?_ ?_ | exact Or.inl rfl | exact l1 bd | fail))
      · (repeat' (first | exact trivial | exact rfl | refine And.intro ?_ ?_ | refine Exists.intro _ (And.intro rfl ?_) | exact Or.inl rfl | fail))
      intro m ⟨hm, hno⟩
      by_cases hm2 : m < D.length
      · have hmp : (D.map encPt)[m]? = some (encPt D[m]) := by simp [hm2]
        refine code_sound (more := more8 false _ _) more8_ok FOK.wide _ ?_
        repeat' ((try conv => whnf); first | (first | refine k3 (fun hb => ?_) fun hb => ?_ | refine k4 (fun hb => ?_) fun hb => ?_) <;> (try rw [List.length_map] at hb) <;> (try (exfalso; omega; done)) | refine And.intro rfl ?_ | refine s4 nm ?_ | refine s5 nm nm ?_ | fail)
        · exact hbad i hi2 fun h => by
            unfold alikeR at h
            exact h D[m] (by rw [← hD]; exact List.getElem_mem hm2) (by unfold hitS; assumption)
        · refine ⟨m + 1, Le.of (by (repeat' (first | exact trivial | refine And.intro ?_ ?_ | exact Or.inl rfl | fail))) (by (repeat' (first | exact trivial | exact rfl | refine And.intro ?_ ?_ | refine Exists.intro _ (And.intro rfl ?_) | exact Or.inl rfl | fail))) rfl rfl rfl, ⟨by omega, fun j hj hjm => ?_⟩, by omega⟩
          by_cases e : j = m
          · subst e; unfold hitS; assumption
          · exact hno j hj (by omega)
      · refine code_sound (more := more8 false _ _) more8_ok FOK.wide _ ?_
        repeat' ((try conv => whnf); first | (first | refine k3 (fun hb => ?_) fun hb => ?_ | refine k4 (fun hb => ?_) fun hb => ?_) <;> (try rw [List.length_map] at hb) <;> (try (exfalso; omega; done)) | refine s4 nm ?_ | fail)
        refine ⟨(i + 1, dm'), Le.of (by (repeat' (first | exact trivial | refine And.intro ?_ ?_ | exact Or.inl rfl | fail))) (by (repeat' (first | exact trivial | exact rfl | refine And.intro ?_ ?_ | fail))) rfl rfl rfl, ⟨hi2, hdmn, fun j hj hjm => ?_⟩, by simp only; omega⟩
        simp only at hjm
        by_cases e : j = i
        · subst e
          unfold alikeR
          rw [← hD]
          intro p hp
          obtain ⟨x, hx, rfl⟩ := List.getElem_of_mem hp
          exact hno x hx (by omega)
        · exact hgood j hj (by omega)
    · have hget' : ∀ z, (mget dm rds[i].key).getD z = encPts D := fun z => by rw [hs]; rfl
      refine code_sound (more := more8 false _ _) more8_ok FOK.wide _ ?_
      repeat' ((try conv => whnf); first | (first | refine k3 (fun hb => ?_) fun hb => ?_ | refine k4 (fun hb => ?_) fun hb => ?_) <;> (try rw [List.length_map] at hb) <;> (try (exfalso; omega; done)) | refine And.intro rfl ?_ | refine s5 nm nm ?_ | fail)
      refine ⟨_, inferInstance, kyK, rds[i].key, dm, hok, rfl, rfl, _, _, hget' _, by rw [hs], ?_⟩
      skip
      refine ⟨_, inferInstance, kyK, rds[i].key, dm, hok, rfl, rfl, _, hget' _, ?_⟩
      skip
      refine Wp.loop (fun m : Nat => ⟨[(2, .int b), (3, .int a), (9, .pure (grpPV l)), (10, .mp 20), (12, .loc 12 0 0), (21, .pure (encRds rds)), (22, .int rds.length), (23, .int i), (54, .pure (encPts D)), (55, .int D.length), (56, .int m)], [(20, some (.mp (kyK.enc dm))), (12, some (.box (pures (encRd rds[i]))))], [20, 12]⟩)
        (fun m => m ≤ D.length ∧ ∀ j (h : j < D.length), j < m → ¬ hitS rds[i] D[j]) (fun m => D.length - m) 0 (Le.of ?_ ?_ rfl rfl rfl) ⟨Nat.zero_le _, fun j _ h => absurd h (Nat.not_lt_zero _)⟩ ?_
      · (repeat' (first | exact trivial | refine And.intro ?_ ?_ | exact Or.inl rfl | exact l1 bd | fail))
      · (repeat' (first | exact trivial | exact rfl | refine And.intro ?_ ?_ | refine Exists.intro _ (And.intro rfl ?_) | exact Or.inl rfl | fail))
      intro m ⟨hm, hno⟩
      by_cases hm2 : m < D.length
      · have hmp : (D.map encPt)[m]? = some (encPt D[m]) := by simp [hm2]
        refine code_sound (more := more8 false _ _) more8_ok FOK.wide _ ?_
        repeat' ((try conv => whnf); first | (first | refine k3 (fun hb => ?_) fun hb => ?_ | refine k4 (fun hb => ?_) fun hb => ?_) <;> (try rw [List.length_map] at hb) <;> (try (exfalso; omega; done)) | refine And.intro rfl ?_ | refine s4 nm ?_ | refine s5 nm nm ?_ | fail)
        · exact hbad i hi2 fun h => by
            unfold alikeR at h
            exact h D[m] (by rw [← hD]; exact List.getElem_mem hm2) (by unfold hitS; assumption)
        · refine ⟨m + 1, Le.of (by (repeat' (first | exact trivial | refine And.intro ?_ ?_ | exact Or.inl rfl | fail))) (by (repeat' (first | exact trivial | exact rfl | refine And.intro ?_ ?_ | refine Exists.intro _ (And.intro rfl ?_) | exact Or.inl rfl | fail))) rfl rfl rfl, ⟨by omega, fun j hj hjm => ?_⟩, by omega⟩
          by_cases e : j = m
          · subst e; unfold hitS; assumption
          · exact hno j hj (by omega)
      · refine code_sound (more := more8 false _ _) more8_ok FOK.wide _ ?_
        repeat' ((try conv => whnf); first | (first | refine k3 (fun hb => ?_) fun hb => ?_ | refine k4 (fun hb => ?_) fun hb => ?_) <;> (try rw [List.length_map] at hb) <;> (try (exfalso; omega; done)) | refine s4 nm ?_ | fail)
        refine ⟨(i + 1, dm), Le.of (by (repeat' (first | exact trivial | refine And.intro ?_ ?_ | exact Or.inl rfl | fail))) (by (repeat' (first | exact trivial | exact rfl | refine And.intro ?_ ?_ | fail))) rfl rfl rfl, ⟨hi2, hdm, fun j hj hjm => ?_⟩, by simp only; omega⟩
        simp only at hjm
        by_cases e : j = i
        · subst e
          unfold alikeR
          rw [← hD]
          intro p hp
          obtain ⟨x, hx, rfl⟩ := List.getElem_of_mem hp
          exact hno x hx (by omega)
        · exact hgood j hj (by omega)
  · refine code_sound (more := more8 false _ _) more8_ok FOK.wide _ ?_
    repeat' ((try conv => whnf); first | (first | refine k3 (fun hb => ?_) fun hb => ?_ | refine k4 (fun hb => ?_) fun hb => ?_) <;> (try rw [List.length_map] at hb) <;> (try (exfalso; omega; done)) | fail)
    exact hall fun j hj => hgood j hj (by omega)
end Go.Proofs.Ytinhhmnnfbeimaa
/- Facts: values on days; what is alike. Conditions: none. -/

namespace Go.Proofs.Ytinhhmnnfbeimaa
open Go.Avc
theorem spN_keep {dif : Nat → Bool} {n : Nat} {d : Int} (p : Int × Int) (hp : p ∈ spN dif n) (h : p.1 ≤ d ∧ d < p.2) : ∃ q ∈ spN dif (n + 1), q.1 ≤ d ∧ d < q.2 := by
  unfold spN
  split
  · split
    · rename_i q hq
      split
      · rename_i hqn
        obtain ⟨l, hl⟩ : ∃ l, spN dif n = l ++ [q] := by
          have hne : spN dif n ≠ [] := fun e => by rw [e] at hp; cases hp
          have hlast : (spN dif n).getLast hne = q := by
            rw [List.getLast?_eq_some_getLast hne] at hq
            exact Option.some.inj hq
          exact ⟨(spN dif n).dropLast, by rw [← hlast]; exact (List.dropLast_concat_getLast hne).symm⟩
        rw [hl] at hp ⊢
        rw [List.mem_append, List.mem_singleton] at hp
        rcases hp with hp | rfl
        · exact ⟨p, by simp [hp], h⟩
        · refine ⟨(p.1, (n : Int) + 1), by simp, h.1, ?_⟩
          simp only; omega
      · exact ⟨p, by simp [hp], h⟩
    · exact ⟨p, by simp [hp], h⟩
  · exact ⟨p, hp, h⟩
/-- Each day that has the property lies in a span. -/
theorem spN_cover {dif : Nat → Bool} : ∀ {n d : Nat}, d < n → dif d = true → ∃ p ∈ spN dif n, p.1 ≤ (d : Int) ∧ (d : Int) < p.2
  | 0, d, h, _ => by omega
  | n + 1, d, h, hd => by
    by_cases e : d = n
    · subst e
      unfold spN
      rw [if_pos hd]
      split
      · rename_i q hq
        have hq2 := spN_to dif d q (List.mem_of_getLast? hq)
        split
        · exact ⟨(q.1, (d : Int) + 1), by simp, by simp only; omega, by simp only; omega⟩
        · exact ⟨((d : Int), (d : Int) + 1), by simp, by simp only; omega, by simp only; omega⟩
      · exact ⟨((d : Int), (d : Int) + 1), by simp, by simp only; omega, by simp only; omega⟩
    · obtain ⟨p, hp, h2⟩ := spN_cover (n := n) (d := d) (by omega) hd
      exact spN_keep p hp h2
theorem at_form (l : List Fa) (k : Ky) (d kn : Int) : (atF l k d kn = (0, false) ∧ pnt l k kn d = -1) ∨ ∃ v, 0 ≤ v ∧ atF l k d kn = (v, true) ∧ pnt l k kn d = v := by
  have h : (atF l k d kn = (0, false)) ∨ ∃ v, 0 ≤ v ∧ atF l k d kn = (v, true) := by
    unfold atF valF
    split
    · split
      · exact .inl rfl
      · exact .inr ⟨_, by omega, rfl⟩
    · exact .inl rfl
  rcases h with h | ⟨v, h1, h2⟩
  · exact .inl ⟨h, by unfold pnt; rw [h]; rfl⟩
  · exact .inr ⟨v, h1, h2, by unfold pnt; rw [h2]; rfl⟩
set_option maxRecDepth 20000
set_option maxHeartbeats 4000000
set_option linter.unusedSimpArgs false
attribute [local irreducible] PSub Wp PSpec Le Need Both
attribute [local irreducible] Fa.bef atF pntL
theorem points_spec (l : List Fa) (k : Ky) (lo hi kn : Int) (hl : l.length ≤ 100000) : PSpec Try.prog 21 [encFs l, .agg (encKy k), .int lo, .int hi, .int kn] (encPts (ptsF l k lo hi kn)) := by
  have qp := paint_spec l k kn hl
  obtain ⟨d, hd⟩ : ∃ d, d = max 0 lo := ⟨_, rfl⟩
  have hd0 : 0 ≤ d := by omega
  obtain ⟨m, hm⟩ : ∃ m, m = (min hi 1024 - d).toNat := ⟨_, rfl⟩
  have hpf : ptsF l k lo hi kn = ptsN l k d m kn := by unfold ptsF; rw [hm, hd]
  rw [hpf]
  have hvl : (pntL l k kn).length = 1024 := pntL_len ..
  obtain ⟨vs, hvs⟩ : ∃ vs, vs = pntL l k kn := ⟨_, rfl⟩
  have hat : ∀ n : Nat, (h : n < vs.length) → vs[n] = pnt l k kn n := fun n h => by subst hvs; simp [pntL]
  rw [← hvs] at qp hvl
  clear hvs
  refine PSpec.of_vc (fun Γ => more8 false Γ.P Γ.fx) (fun Γ => more8_ok) Try.func21 rfl Try.call21 (by simp) ?_
  rintro ⟨P, N, w0, X, β0, fx, y, hy, pk, df⟩ rfl rfl rfl hoff rfl; change y.on = false at hoff
  skip
  refine .inl ⟨_, qp, ?_⟩
  repeat' ((try conv => whnf); first | refine And.intro rfl ?_ | fail)
  refine Wp.loop (fun i : Nat => ⟨[(3, .int hi), (10, .lsl 60 0 (ptsN l k d i kn).length), (11, .pure (encA vs)), (12, .int (d + i))], [(60, some (.row 2 ((ptsN l k d i kn).map encPt)))], [60]⟩) (fun i => i ≤ m) (fun i => m - i) 0 (Le.trans (Le.virt (k := 60) (sz := 2) rfl rfl (by omega)) (Le.of ?_ ?_ rfl rfl rfl)) (by omega) ?_
  · (repeat' (first | exact trivial | refine And.intro ?_ ?_ | exact Or.inl rfl | exact l1 bd | exact l6 rfl | fail))
  · (repeat' (first | exact trivial | exact rfl | refine And.intro ?_ ?_ | fail))
  intro i hi2
  by_cases hi3 : i < m
  · have hs := ptsN_succ l k d i kn
    have hlen := ptsN_len l k d i kn
    have hn : (d + (i : Int)).toNat < vs.length := by omega
    have hv := hat (d + (i : Int)).toNat hn
    rw [show (((d + (i : Int)).toNat : Nat) : Int) = d + i by omega] at hv
    obtain ⟨p, hp⟩ : ∃ p, p = ptsN l k d i kn := ⟨_, rfl⟩
    rw [← hp] at hs hlen ⊢
    rcases at_form l k (d + i) kn with ⟨e1, e2⟩ | ⟨v, e0, e1, e2⟩
    · rw [e1] at hs
      rw [if_neg (by simp)] at hs
      refine code_sound (more := more8 false _ _) more8_ok FOK.wide _ ?_
      repeat' ((try conv => whnf); first | (first | refine k3 (fun hb => ?_) fun hb => ?_ | refine k4 (fun hb => ?_) fun hb => ?_) <;> (try rw [List.length_map] at hb) <;> (try (exfalso; omega; done)) | refine s4 nm ?_ | refine s6 nm nm ?_ | fail)
      refine ⟨i + 1, Le.of ?_ ?_ rfl rfl rfl, by omega, by omega⟩
      · rw [hs]; (repeat' (first | exact trivial | refine And.intro ?_ ?_ | exact Or.inl rfl | exact l1 bd | fail))
      · rw [hs]; (repeat' (first | exact trivial | exact rfl | refine And.intro ?_ ?_ | fail))
    · rw [e1] at hs
      rw [if_pos rfl] at hs
      dsimp only at hs
      have hv2 : vs[(d + (i : Int)).toNat] = v := hv.trans e2
      refine code_sound (more := more8 false _ _) more8_ok FOK.wide _ ?_
      repeat' ((try conv => whnf); first | (first | refine k3 (fun hb => ?_) fun hb => ?_ | refine k4 (fun hb => ?_) fun hb => ?_) <;> (try rw [List.length_map] at hb) <;> (try (exfalso; omega; done)) | refine s4 nm ?_ | refine s6 nm nm ?_ | refine And.intro bd ?_ | fail)
      refine ⟨i + 1, Le.map [(60, 40)] ?_ ?_ rfl rfl rfl rfl, by omega, by omega⟩
      · rw [hs]; (repeat' (first | exact trivial | refine And.intro ?_ ?_ | exact Or.inl rfl | exact l1 bd | exact SubA.lsl ls | fail))
      · rw [hs]
        (repeat' (first | exact trivial | refine And.intro ?_ ?_ | fail))
        all_goals first
          | (refine SubA.lsl ?_; focus (simp; done))
          | (refine rowEq ?_; focus (simp; done))
          | (refine rowEq ?_; focus (rw [List.map_append, hv2]; rfl))
          | (refine rowEq ?_; focus (rw [List.map_append]; simp only [List.map_cons, List.map_nil, encPt]; rw [hv2]))
          | (refine l1 ?_; rw [Int.natCast_succ]; omega)
  · have e : i = m := by omega
    subst e
    refine code_sound (more := more8 false _ _) more8_ok FOK.wide _ ?_
    repeat' ((try conv => whnf); first | (first | refine k3 (fun hb => ?_) fun hb => ?_ | refine k4 (fun hb => ?_) fun hb => ?_) <;> (try rw [List.length_map] at hb) <;> (try (exfalso; omega; done)) | fail)
    exact sub_sl (by rw [List.drop_zero, List.take_of_length_le (by simp)])
end Go.Proofs.Ytinhhmnnfbeimaa
/- Facts: keys in order, each once; what has changed. Conditions: none. -/
namespace Go.Proofs.Ytinhhmnnfbeimaa
open Go.Avc
def lessK (a b : Ky) : Prop := a.kind < b.kind ∨ a.kind = b.kind ∧ (a.subj < b.subj ∨ a.subj = b.subj ∧ a.obj < b.obj)
instance (a b : Ky) : Decidable (lessK a b) := by unfold lessK; infer_instance
theorem lessK_irr (a : Ky) : ¬ lessK a a := by unfold lessK; omega
theorem lessK_trans {a b c : Ky} (h : lessK a b) (k : lessK b c) : lessK a c := by unfold lessK at *; omega
theorem lessK_tri (a b : Ky) : lessK a b ∨ a = b ∨ lessK b a := by
  obtain ⟨a1, a2, a3⟩ := a; obtain ⟨b1, b2, b3⟩ := b
  unfold lessK
  simp only [Ky.mk.injEq]
  omega
/-- How many keys of a list, from its front on, come before a key. -/
def posK (k : Ky) : List Ky → Nat
  | [] => 0
  | x :: l => if lessK x k then posK k l + 1 else 0
theorem posK_le (k : Ky) : ∀ l, posK k l ≤ l.length
  | [] => Nat.le_refl _
  | x :: l => by
    have := posK_le k l
    unfold posK
    split <;> simp <;> omega
theorem posK_lt {k : Ky} : ∀ {l : List Ky} {i : Nat} (h : i < l.length), i < posK k l → lessK l[i] k
  | [], i, h, _ => by simp at h
  | x :: l, i, h, hp => by
    unfold posK at hp
    split at hp
    · rename_i hx
      cases i with
      | zero => exact hx
      | succ i => exact posK_lt (l := l) (by simpa using h) (by omega)
    · omega
theorem posK_at {k : Ky} : ∀ {l : List Ky} (h : posK k l < l.length), ¬ lessK (l[posK k l]) k
  | [], h => by simp at h
  | x :: l, h => by
    by_cases hx : lessK x k
    · have e : posK k (x :: l) = posK k l + 1 := by rw [posK, if_pos hx]
      have h' : posK k l < l.length := by rw [e] at h; simpa using h
      have := posK_at h'
      simp only [e, List.getElem_cons_succ]
      exact this
    · have e : posK k (x :: l) = 0 := by rw [posK, if_neg hx]
      simp only [e, List.getElem_cons_zero]
      exact hx
theorem posK_eq {k : Ky} {l : List Ky} {n : Nat} (hn : n ≤ l.length) (h1 : ∀ i (h : i < l.length), i < n → lessK l[i] k) (h2 : ∀ h : n < l.length, ¬ lessK l[n] k) : posK k l = n := by
  have h3 := posK_le k l
  rcases Nat.lt_trichotomy (posK k l) n with h | h | h
  · exact absurd (h1 (posK k l) (by omega) h) (posK_at (by omega))
  · exact h
  · exact absurd (posK_lt (by omega) h) (h2 (by omega))
/-- A key is put into a list in its order, once. -/
def insK (k : Ky) (l : List Ky) : List Ky := if l[posK k l]? = some k then l else l.take (posK k l) ++ k :: l.drop (posK k l)
def sortedK (l : List Ky) : Prop := l.Pairwise lessK
theorem insK_mem {k : Ky} {l : List Ky} (x : Ky) : x ∈ insK k l ↔ x = k ∨ x ∈ l := by
  unfold insK
  split
  · rename_i h
    have := List.mem_of_getElem? h
    constructor
    · exact .inr
    · rintro (rfl | h)
      · exact this
      · exact h
  · have e := List.take_append_drop (posK k l) l
    rw [List.mem_append, List.mem_cons]
    constructor
    · rintro (h | rfl | h)
      · exact .inr (List.mem_of_mem_take h)
      · exact .inl rfl
      · exact .inr (List.mem_of_mem_drop h)
    · rintro (rfl | h)
      · exact .inr (.inl rfl)
      · rw [← e, List.mem_append] at h
        rcases h with h | h
        · exact .inl h
        · exact .inr (.inr h)
theorem insK_sorted {k : Ky} {l : List Ky} (h : sortedK l) : sortedK (insK k l) := by
  unfold insK
  split
  · exact h
  · rename_i hne
    unfold sortedK at h ⊢
    have hd : ∀ x ∈ l.drop (posK k l), lessK k x := fun x hx => by
      obtain ⟨i, hi, rfl⟩ := List.getElem_of_mem hx
      rw [List.length_drop] at hi
      rw [List.getElem_drop]
      have h0 : posK k l < l.length := by omega
      have hn := posK_at h0
      have hk : lessK k l[posK k l] := by
        rcases lessK_tri k l[posK k l] with h1 | h1 | h1
        · exact h1
        · exact absurd (by rw [List.getElem?_eq_getElem h0, ← h1]) hne
        · exact absurd h1 hn
      cases i with
      | zero => simpa using hk
      | succ i => exact lessK_trans hk ((List.pairwise_iff_getElem.1 h) _ _ h0 (by omega) (by omega))
    have ht : ∀ x ∈ l.take (posK k l), lessK x k := fun x hx => by
      obtain ⟨i, hi, rfl⟩ := List.getElem_of_mem hx
      rw [List.length_take] at hi
      rw [List.getElem_take]
      exact posK_lt (by omega) (by omega)
    refine List.pairwise_append.2 ⟨h.sublist (List.take_sublist _ _), List.pairwise_cons.2 ⟨hd, h.sublist (List.drop_sublist _ _)⟩, fun a ha b hb => ?_⟩
    rcases List.mem_cons.1 hb with rfl | hb
    · exact ht a ha
    · exact lessK_trans (ht a ha) (hd b hb)
def keysF (l : List Fa) : List Ky := l.foldl (fun out f => insK f.key out) []
theorem keysF_snoc (l : List Fa) (f : Fa) : keysF (l ++ [f]) = insK f.key (keysF l) := by unfold keysF; rw [List.foldl_append]; rfl
theorem keysF_take {l : List Fa} {i : Nat} (h : i < l.length) : keysF (l.take (i + 1)) = insK l[i].key (keysF (l.take i)) := by rw [List.take_succ_eq_append_getElem h, keysF_snoc]
theorem keysF_mem (l : List Fa) (k : Ky) : k ∈ keysF l ↔ ∃ f ∈ l, f.key = k := by
  induction l using snocI with
  | h0 => simp [keysF]
  | hs l f ih =>
    rw [keysF_snoc, insK_mem, ih]
    constructor
    · rintro (rfl | ⟨g, h1, h2⟩)
      · exact ⟨f, by simp, rfl⟩
      · exact ⟨g, by simp [h1], h2⟩
    · rintro ⟨g, h1, h2⟩
      rw [List.mem_append, List.mem_singleton] at h1
      rcases h1 with h1 | rfl
      · exact .inr ⟨g, h1, h2⟩
      · exact .inl h2.symm
theorem keysF_sorted (l : List Fa) : sortedK (keysF l) := by
  induction l using snocI with
  | h0 => exact List.Pairwise.nil
  | hs l f ih => rw [keysF_snoc]; exact insK_sorted ih
theorem insK_len (k : Ky) (l : List Ky) : (insK k l).length ≤ l.length + 1 := by
  unfold insK
  split
  · omega
  · rw [List.length_append, List.length_cons, List.length_take, List.length_drop]; omega
theorem keysF_len (l : List Fa) : (keysF l).length ≤ l.length := by
  induction l using snocI with
  | h0 => simp [keysF]
  | hs l f ih =>
    have := insK_len f.key (keysF l)
    rw [keysF_snoc, List.length_append, List.length_singleton]; omega
attribute [local irreducible] ddF
abbrev Df := Ky × List (Int × Int)
def dfOf (l : List Fa) (b a : Int) (k : Ky) : Option Df := if ddF l k b a = [] then none else some (k, ddF l k b a)
def chL (l : List Fa) (b a : Int) (ks : List Ky) : List Df := ks.filterMap (dfOf l b a)
def chF (l : List Fa) (b a : Int) : List Df := chL l b a (keysF l)
theorem chL_snoc (l : List Fa) (b a : Int) (ks : List Ky) (k : Ky) : chL l b a (ks ++ [k]) = if ddF l k b a = [] then chL l b a ks else chL l b a ks ++ [(k, ddF l k b a)] := by
  unfold chL
  rw [List.filterMap_append]
  by_cases h : ddF l k b a = [] <;> simp [dfOf, h]
theorem chL_len (l : List Fa) (b a : Int) (ks : List Ky) : (chL l b a ks).length ≤ ks.length := List.length_filterMap_le _ _
def ltD (x y : Df) : Prop := lessK x.1 y.1
theorem dfOf_key {l : List Fa} {b a : Int} {k : Ky} {x : Df} (h : dfOf l b a k = some x) : x.1 = k := by
  unfold dfOf at h
  split at h
  · cases h
  · cases h; rfl
theorem chL_sorted {l : List Fa} {b a : Int} {ks : List Ky} (h : sortedK ks) : (chL l b a ks).Pairwise ltD := by
  unfold chL
  refine List.pairwise_filterMap.2 (h.imp fun {x y} hxy p hp q hq => ?_)
  unfold ltD
  rw [dfOf_key hp, dfOf_key hq]
  exact hxy
theorem chL_mem {l : List Fa} {b a : Int} {ks : List Ky} (x : Df) : x ∈ chL l b a ks ↔ x.1 ∈ ks ∧ x.2 = ddF l x.1 b a ∧ x.2 ≠ [] := by
  unfold chL
  rw [List.mem_filterMap]
  constructor
  · rintro ⟨k, hk, h⟩
    have := dfOf_key h
    subst this
    unfold dfOf at h
    split at h
    · cases h
    · rename_i hne
      have h := Option.some.inj h
      have e : x.2 = ddF l x.1 b a := by
        have := congrArg Prod.snd h
        exact this.symm
      exact ⟨hk, e, by rw [e]; exact hne⟩
  · rintro ⟨h1, h2, h3⟩
    refine ⟨x.1, h1, ?_⟩
    unfold dfOf
    rw [if_neg (by rw [← h2]; exact h3), ← h2]
/-- Two lists in strict order with the same elements are one. -/
theorem sorted_uniq {α : Type} {lt : α → α → Prop} (hi : ∀ a, ¬ lt a a) (ht : ∀ a b c, lt a b → lt b c → lt a c) : ∀ {l m : List α}, l.Pairwise lt → m.Pairwise lt → (∀ x, x ∈ l ↔ x ∈ m) → l = m
  | [], [], _, _, _ => rfl
  | [], b :: m, _, _, h => by have := (h b).2 (by simp); cases this
  | a :: l, [], _, _, h => by have := (h a).1 (by simp); cases this
  | a :: l, b :: m, hl, hm, h => by
    obtain ⟨l1, l2⟩ := List.pairwise_cons.1 hl
    obtain ⟨m1, m2⟩ := List.pairwise_cons.1 hm
    have e : a = b := by
      rcases List.mem_cons.1 ((h a).1 (by simp)) with e | e
      · exact e
      · rcases List.mem_cons.1 ((h b).2 (by simp)) with e' | e'
        · exact e'.symm
        · exact absurd (ht _ _ _ (m1 a e) (l1 b e')) (hi b)
    subst e
    congr 1
    refine sorted_uniq hi ht l2 m2 fun x => ⟨fun hx => ?_, fun hx => ?_⟩
    · rcases List.mem_cons.1 ((h x).1 (List.mem_cons_of_mem _ hx)) with rfl | e'
      · exact absurd (l1 _ hx) (hi _)
      · exact e'
    · rcases List.mem_cons.1 ((h x).2 (List.mem_cons_of_mem _ hx)) with rfl | e'
      · exact absurd (m1 _ hx) (hi _)
      · exact e'
/-- What was found in any order, sorted by its keys. -/
theorem ch_unique {l : List Fa} {b a : Int} {ks : List Ky} (hm : ∀ k, k ∈ ks ↔ k ∈ keysF l) (hn : ks.Nodup) {r : List Df} (hp : r.Perm (chL l b a ks)) (hs : r.Pairwise fun x y => ¬ ltD y x) : r = chF l b a := by
  refine sorted_uniq (lt := ltD) (fun x => lessK_irr _) (fun x y z h k => lessK_trans h k) ?_ (chL_sorted (keysF_sorted l)) fun x => ?_
  · have hne : (chL l b a ks).Pairwise (fun x y => x.1 ≠ y.1) := by
      unfold chL
      refine List.pairwise_filterMap.2 (hn.imp fun {x y} hxy p hp q hq => ?_)
      rw [dfOf_key hp, dfOf_key hq]
      exact hxy
    have hne2 : r.Pairwise (fun x y => x.1 ≠ y.1) := (hp.pairwise_iff (fun {_ _} h => Ne.symm h)).2 hne
    refine (hs.and hne2).imp fun {x y} h => ?_
    rcases lessK_tri x.1 y.1 with h1 | h1 | h1
    · exact h1
    · exact absurd h1 h.2
    · exact absurd h1 h.1
  · rw [hp.mem_iff, chF, chL_mem, chL_mem, hm]
theorem gks_mem {α : Type} [DecidableEq α] (l : List (α × List PV)) (k : α) : k ∈ gks l ↔ ∃ q ∈ l, q.1 = k := by
  induction l using snocI with
  | h0 => simp [gks]
  | hs l q ih =>
    rw [gks_snoc]
    have : (∃ q' ∈ l ++ [q], q'.1 = k) ↔ (∃ q' ∈ l, q'.1 = k) ∨ q.1 = k := by
      constructor
      · rintro ⟨x, h1, h2⟩
        rw [List.mem_append, List.mem_singleton] at h1
        rcases h1 with h1 | rfl
        · exact .inl ⟨x, h1, h2⟩
        · exact .inr h2
      · rintro (⟨x, h1, h2⟩ | h)
        · exact ⟨x, by simp [h1], h2⟩
        · exact ⟨q, by simp, h⟩
    rw [this, ← ih]
    split
    · rename_i hq
      constructor
      · exact .inl
      · rintro (h | rfl)
        · exact h
        · exact hq
    · rw [List.mem_append, List.mem_singleton, eq_comm (a := k)]
theorem gks_keys (l : List Fa) (k : Ky) : k ∈ gks (facL l) ↔ k ∈ keysF l := by
  rw [gks_mem, keysF_mem]
  unfold facL
  constructor
  · rintro ⟨q, h1, h2⟩
    rw [List.mem_map] at h1
    obtain ⟨f, hf, rfl⟩ := h1
    exact ⟨f, hf, h2⟩
  · rintro ⟨f, h1, h2⟩
    exact ⟨_, List.mem_map_of_mem h1, h2⟩
end Go.Proofs.Ytinhhmnnfbeimaa
/- Facts: plain laws of spans, of points, of what has changed. Conditions: none. -/
namespace Go.Proofs.Ytinhhmnnfbeimaa
open Go.Avc
/-- Each day of a span has the property. -/
theorem spN_sound (dif : Nat → Bool) : ∀ (n : Nat) (p : Int × Int), p ∈ spN dif n → ∀ j : Nat, p.1 ≤ (j : Int) → (j : Int) < p.2 → dif j = true
  | 0, p, h, _, _, _ => by cases h
  | n + 1, p, h, j, h1, h2 => by
    have ih := spN_sound dif n
    unfold spN at h
    split at h
    · rename_i hd
      split at h
      · rename_i q hq
        have hqm := List.mem_of_getLast? hq
        split at h
        · rename_i hqn
          rw [List.mem_append, List.mem_singleton] at h
          rcases h with h | rfl
          · exact ih p (List.dropLast_subset _ h) j h1 h2
          · simp only at h1 h2
            by_cases e : j = n
            · subst e; exact hd
            · exact ih q hqm j h1 (by omega)
        · rw [List.mem_append, List.mem_singleton] at h
          rcases h with h | rfl
          · exact ih p h j h1 h2
          · simp only at h1 h2
            have e : j = n := by omega
            subst e; exact hd
      · rw [List.mem_append, List.mem_singleton] at h
        rcases h with h | rfl
        · exact ih p h j h1 h2
        · simp only at h1 h2
          have e : j = n := by omega
          subst e; exact hd
    · exact ih p h j h1 h2
theorem spN_le {dif : Nat → Bool} {n : Nat} {l : List (Int × Int)} {q p : Int × Int} (h : spN dif n = l ++ [q]) (hg : (spN dif n).Pairwise fun p q => p.2 < q.1) (hp : p ∈ spN dif n) : p.2 ≤ q.2 := by
  rw [h] at hp hg
  rw [List.mem_append, List.mem_singleton] at hp
  rcases hp with hp | rfl
  · have h1 := (List.pairwise_append.1 hg).2.2 p hp q (by simp)
    have h2 := (spN_to dif n q (by rw [h]; simp)).2.1
    omega
  · exact Int.le_refl _
theorem spN_gap (dif : Nat → Bool) : ∀ n : Nat, (spN dif n).Pairwise fun p q => p.2 < q.1
  | 0 => List.Pairwise.nil
  | n + 1 => by
    have ih := spN_gap dif n
    unfold spN
    split
    · split
      · rename_i q hq
        obtain ⟨l, hl⟩ : ∃ l, spN dif n = l ++ [q] := by
          have hne : spN dif n ≠ [] := fun e => by rw [e] at hq; cases hq
          have hlast : (spN dif n).getLast hne = q := by
            rw [List.getLast?_eq_some_getLast hne] at hq
            exact Option.some.inj hq
          exact ⟨(spN dif n).dropLast, by rw [← hlast]; exact (List.dropLast_concat_getLast hne).symm⟩
        split
        · rw [hl] at ih ⊢
          rw [List.dropLast_concat]
          obtain ⟨i1, _, i3⟩ := List.pairwise_append.1 ih
          exact List.pairwise_append.2 ⟨i1, List.pairwise_singleton _ _, fun p hp r hr => by
            rw [List.mem_singleton] at hr; subst hr; exact i3 p hp q (by simp)⟩
        · rename_i hqn
          refine List.pairwise_append.2 ⟨ih, List.pairwise_singleton _ _, fun p hp r hr => ?_⟩
          rw [List.mem_singleton] at hr; subst hr
          have h1 := spN_le hl ih hp
          have h2 := (spN_to dif n q (by rw [hl]; simp)).2.2
          simp only; omega
      · rename_i hq
        have : spN dif n = [] := List.getLast?_eq_none_iff.1 hq
        rw [this]
        exact List.pairwise_singleton _ _
    · exact ih
theorem pntL_at {l : List Fa} {k : Ky} {kn : Int} {n : Nat} (h : n < 1024) : (pntL l k kn).getD n 0 = pnt l k kn n := by
  rw [getD_at (by rw [pntL_len]; exact h)]
  simp [pntL]
theorem pnt_iff {l m : List Fa} {k : Ky} {d a b : Int} : pnt l k a d = pnt m k b d ↔ atF l k d a = atF m k d b := by
  constructor
  · intro h
    rcases at_form l k d a with ⟨h1, h2⟩ | ⟨v, h0, h1, h2⟩ <;> rcases at_form m k d b with ⟨h3, h4⟩ | ⟨u, h5, h3, h4⟩
    · rw [h1, h3]
    · omega
    · omega
    · rw [h1, h3, show v = u by omega]
  · intro h
    unfold pnt
    rw [h]
theorem difA_iff {l : List Fa} {k : Ky} {b a : Int} {n : Nat} (h : n < 1024) : difA (pntL l k b) (pntL l k a) n = true ↔ atF l k n b ≠ atF l k n a := by
  unfold difA
  rw [pntL_at h, pntL_at h, Bool.not_eq_true', decide_eq_false_iff_not, pnt_iff]
theorem spN_congr {f g : Nat → Bool} : ∀ {n : Nat}, (∀ j, j < n → f j = g j) → spN f n = spN g n
  | 0, _ => rfl
  | n + 1, h => by
    have ih := spN_congr (n := n) fun j hj => h j (by omega)
    simp only [spN, ih, h n (by omega)]
/-- The two times differ on this day. -/
def difT (l : List Fa) (k : Ky) (b a : Int) (n : Nat) : Bool := !decide (atF l k n b = atF l k n a)
theorem ddF_eq (l : List Fa) (k : Ky) (b a : Int) : ddF l k b a = spN (difT l k b a) 1024 := by
  unfold ddF diffF
  refine spN_congr fun j hj => ?_
  have := difA_iff (l := l) (k := k) (b := b) (a := a) hj
  unfold difT
  by_cases h : atF l k (j : Int) b = atF l k (j : Int) a
  · rw [decide_eq_true h, Bool.not_true, Bool.eq_false_iff]
    exact fun h' => this.1 h' h
  · rw [decide_eq_false h, Bool.not_false]
    exact this.2 h
theorem difT_iff {l : List Fa} {k : Ky} {b a : Int} {n : Nat} : difT l k b a n = true ↔ atF l k n b ≠ atF l k n a := by
  unfold difT
  rw [Bool.not_eq_true', decide_eq_false_iff_not]
/-- A read is alike if and only if the values on its days are. -/
theorem alikeR_iff (l : List Fa) (b a : Int) (r : Rd) : alikeR l b a r ↔ ∀ d : Nat, d < 1024 → r.lo ≤ (d : Int) → (d : Int) < r.hi → atF l r.key d b = atF l r.key d a := by
  unfold alikeR
  rw [ddF_eq]
  constructor
  · intro h d hd h1 h2
    refine Decidable.byContradiction fun hne => ?_
    obtain ⟨p, hp, h3⟩ := spN_cover hd (difT_iff.2 hne)
    have := h p hp
    unfold hitS at this
    omega
  · intro h p hp hh
    have hto := spN_to _ _ p hp
    unfold hitS at hh
    obtain ⟨n, hn⟩ : ∃ n : Nat, (n : Int) = max p.1 r.lo := ⟨(max p.1 r.lo).toNat, by omega⟩
    have h1 := spN_sound _ _ p hp n (by omega) (by omega)
    exact difT_iff.1 h1 (h n (by omega) (by omega) (by omega))
theorem ptsN_mem {l : List Fa} {k : Ky} {d kn : Int} {n i : Nat} {v : Int} (hi : i < n) : (d + (i : Int), v) ∈ ptsN l k d n kn ↔ atF l k (d + i) kn = (v, true) := by
  unfold ptsN
  rw [List.mem_filterMap]
  constructor
  · rintro ⟨j, hj, h⟩
    split at h
    · rename_i h2
      have h := Option.some.inj h
      have e1 : (d + (j : Int)) = d + i := congrArg Prod.fst h
      have e2 : (atF l k (d + (j : Int)) kn).1 = v := congrArg Prod.snd h
      have : j = i := by omega
      subst this
      exact Prod.ext e2 h2
    · cases h
  · intro h
    refine ⟨i, List.mem_range.2 hi, ?_⟩
    rw [h]
    simp
theorem fm_congr {α β : Type} {f g : α → Option β} : ∀ {l : List α}, (∀ x ∈ l, f x = g x) → l.filterMap f = l.filterMap g
  | [], _ => rfl
  | x :: l, h => by
    rw [List.filterMap_cons, List.filterMap_cons, h x (by simp), fm_congr fun y hy => h y (by simp [hy])]
theorem ptsN_iff {l m : List Fa} {k : Ky} {d b a : Int} {n : Nat} : ptsN l k d n b = ptsN m k d n a ↔ ∀ i : Nat, i < n → atF l k (d + i) b = atF m k (d + i) a := by
  constructor
  · intro h i hi
    have h1 : ∀ v, atF l k (d + i) b = (v, true) ↔ atF m k (d + i) a = (v, true) := fun v => by rw [← ptsN_mem hi, ← ptsN_mem hi, h]
    rcases at_form l k (d + i) b with ⟨e1, _⟩ | ⟨v, _, e1, _⟩
    · rcases at_form m k (d + i) a with ⟨e2, _⟩ | ⟨u, _, e2, _⟩
      · rw [e1, e2]
      · rw [(h1 u).2 e2, e2]
    · rw [(h1 v).1 e1, e1]
  · intro h
    unfold ptsN
    refine fm_congr fun i hi => ?_
    rw [h i (List.mem_range.1 hi)]
theorem alikeR_pts (l : List Fa) (b a : Int) (r : Rd) : alikeR l b a r ↔ ptsF l r.key r.lo r.hi b = ptsF l r.key r.lo r.hi a := by
  rw [alikeR_iff]
  unfold ptsF
  rw [ptsN_iff]
  constructor
  · intro h i hi
    obtain ⟨n, hn⟩ : ∃ n : Nat, (n : Int) = max 0 r.lo + i := ⟨(max 0 r.lo + i).toNat, by omega⟩
    rw [← hn]
    exact h n (by omega) (by omega) (by omega)
  · intro h d hd h1 h2
    have := h (d - max 0 r.lo).toNat (by omega)
    rw [show max 0 r.lo + (((d : Int) - max 0 r.lo).toNat : Int) = d by omega] at this
    exact this
theorem abtF_none {l : List Fa} {k : Ky} (h : k ∉ keysF l) (kn : Int) : abtF l k kn = [] := by
  unfold abtF
  rw [List.filter_eq_nil_iff]
  intro f hf hk
  unfold abt at hk
  rw [Bool.and_eq_true, decide_eq_true_eq] at hk
  exact h ((keysF_mem l k).2 ⟨f, hf, hk.1⟩)
theorem atF_abt {l m : List Fa} {k : Ky} {d b a : Int} (h : abtF l k b = abtF m k a) : atF l k d b = atF m k d a := by
  unfold atF bestF
  rw [h]
theorem spN_none {dif : Nat → Bool} : ∀ {n : Nat}, (∀ j, j < n → dif j = false) → spN dif n = []
  | 0, _ => rfl
  | n + 1, h => by rw [spN_no (h n (by omega)), spN_none fun j hj => h j (by omega)]
theorem ddF_none {l : List Fa} {k : Ky} (h : k ∉ keysF l) (b a : Int) : ddF l k b a = [] := by
  rw [ddF_eq]
  refine spN_none fun j hj => ?_
  unfold difT
  rw [atF_abt (m := l) (a := a) (by rw [abtF_none h, abtF_none h])]
  simp
theorem ddF_abt {l m : List Fa} {k : Ky} {b a b' a' : Int} (hb : abtF l k b = abtF m k b') (ha : abtF l k a = abtF m k a') : ddF l k b a = ddF m k b' a' := by
  rw [ddF_eq, ddF_eq]
  refine spN_congr fun j hj => ?_
  unfold difT
  rw [atF_abt hb, atF_abt ha]
theorem chF_mem {l : List Fa} {b a : Int} (x : Df) : x ∈ chF l b a ↔ x.2 = ddF l x.1 b a ∧ x.2 ≠ [] := by
  rw [chF, chL_mem]
  constructor
  · exact fun h => h.2
  · intro h
    refine ⟨Decidable.byContradiction fun hn => h.2 ?_, h⟩
    rw [h.1, ddF_none hn]
theorem chF_uniq {l : List Fa} {b a : Int} {r : List Df} (hs : r.Pairwise ltD) (h : ∀ x, x ∈ r ↔ x.2 = ddF l x.1 b a ∧ x.2 ≠ []) : r = chF l b a :=
  sorted_uniq (lt := ltD) (fun x => lessK_irr _) (fun x y z h k => lessK_trans h k) hs (chL_sorted (keysF_sorted l)) fun x => by rw [h, ← chF_mem, chF]
theorem chF_abt {l m : List Fa} {b a : Int} (h : ∀ k, abtF l k b = abtF m k b ∧ abtF l k a = abtF m k a) : chF l b a = chF m b a :=
  chF_uniq (chL_sorted (keysF_sorted l)) fun x => by
    rw [← ddF_abt (h x.1).1 (h x.1).2]
    exact chF_mem x
/-- Facts that become known later change nothing. -/
theorem abtF_more {l more : List Fa} {kn b : Int} (h : ∀ f ∈ more, kn < f.known) (hb : b ≤ kn) (k : Ky) : abtF (l ++ more) k b = abtF l k b := by
  unfold abtF
  rw [List.filter_append]
  have : more.filter (abt k b) = [] := by
    rw [List.filter_eq_nil_iff]
    intro f hf hk
    unfold abt at hk
    rw [Bool.and_eq_true, decide_eq_true_eq, decide_eq_true_eq] at hk
    have := h f hf
    omega
  rw [this, List.append_nil]
theorem abtF_upto {l : List Fa} {kn later : Int} (h : kn ≤ later) (k : Ky) : abtF (uptoF l kn) k later = abtF l k kn := by
  unfold abtF uptoF
  rw [List.filter_filter]
  refine List.filter_congr fun f _ => ?_
  unfold abt
  by_cases h1 : f.key = k <;> by_cases h2 : f.known ≤ kn <;> by_cases h3 : f.known ≤ later <;> simp [h1, h2, h3] <;> omega
theorem uptoF_more {l more : List Fa} {kn : Int} (h : ∀ f ∈ more, kn < f.known) : uptoF (l ++ more) kn = uptoF l kn := by
  unfold uptoF
  rw [List.filter_append]
  have : more.filter (fun f => decide (f.known ≤ kn)) = [] := by
    rw [List.filter_eq_nil_iff]
    intro f hf hk
    have := h f hf
    have := of_decide_eq_true hk
    omega
  rw [this, List.append_nil]
/-- The fact that counts: the last of those about the key, on the day. -/
def onD (k : Ky) (day kn : Int) (f : Fa) : Prop := f.key = k ∧ f.lo ≤ day ∧ day < f.hi ∧ f.known ≤ kn
instance (k : Ky) (day kn : Int) (f : Fa) : Decidable (onD k day kn f) := by unfold onD; infer_instance
/-- No other one counts beside the i-th: none comes after it, and none that is alike stands behind it. -/
def lastAt (l : List Fa) (k : Ky) (day kn : Int) (i : Nat) : Prop := ∃ h : i < l.length, onD k day kn l[i] ∧ ∀ j (hj : j < l.length), onD k day kn l[j] → ¬ l[i].bef l[j] ∧ (i < j → l[j].bef l[i])
theorem bestF_last (l : List Fa) (k : Ky) (day kn : Int) : (bestF l k day kn = none ∧ ∀ j (hj : j < l.length), ¬ onD k day kn l[j]) ∨ ∃ i, ∃ h : i < l.length, bestF l k day kn = some l[i] ∧ lastAt l k day kn i := by
  have key : ∀ n, n ≤ l.length → (bestF (l.take n) k day kn = none ∧ ∀ j (hj : j < l.length), j < n → ¬ onD k day kn l[j]) ∨ ∃ i, ∃ h : i < l.length, i < n ∧ bestF (l.take n) k day kn = some l[i] ∧ onD k day kn l[i] ∧ ∀ j (hj : j < l.length), j < n → onD k day kn l[j] → ¬ l[i].bef l[j] ∧ (i < j → l[j].bef l[i]) := by
    intro n
    induction n with
    | zero => exact fun _ => .inl ⟨rfl, fun j _ h => by omega⟩
    | succ n ih =>
      intro hn
      have hnl : n < l.length := by omega
      have hst := best_step (k := k) (day := day) (kn := kn) hnl
      by_cases ho : onD k day kn l[n]
      · have ha : abt k kn l[n] = true := by unfold abt; rw [decide_eq_true ho.1, decide_eq_true ho.2.2.2]; rfl
        rw [if_pos ha] at hst
        rcases ih (by omega) with ⟨h1, h2⟩ | ⟨i, hi, h0, h1, h2, h3⟩
        · rw [h1, pickF_none ⟨ho.2.1, ho.2.2.1⟩] at hst
          refine .inr ⟨n, hnl, by omega, hst, ho, fun j hj hjn hoj => ?_⟩
          have : j = n := Decidable.byContradiction fun hne => h2 j hj (by omega) hoj
          subst this
          exact ⟨by unfold Fa.bef; omega, fun h => by omega⟩
        · by_cases hb : l[n].bef l[i]
          · rw [h1, pickF_keep hb] at hst
            refine .inr ⟨i, hi, by omega, hst, h2, fun j hj hjn hoj => ?_⟩
            by_cases e : j = n
            · subst e
              exact ⟨by unfold Fa.bef at *; omega, fun _ => hb⟩
            · exact h3 j hj (by omega) hoj
          · rw [h1, pickF_yes ⟨ho.2.1, ho.2.2.1⟩ hb] at hst
            refine .inr ⟨n, hnl, by omega, hst, ho, fun j hj hjn hoj => ?_⟩
            by_cases e : j = n
            · subst e
              exact ⟨by unfold Fa.bef; omega, fun h => by omega⟩
            · refine ⟨fun h => ?_, fun h => by omega⟩
              have := (h3 j hj (by omega) hoj).1
              unfold Fa.bef at *
              omega
      · have hst : bestF (l.take (n + 1)) k day kn = bestF (l.take n) k day kn := by
          rw [hst]
          split
          · rename_i ha
            unfold abt at ha
            rw [Bool.and_eq_true, decide_eq_true_eq, decide_eq_true_eq] at ha
            exact pickF_no fun h => ho ⟨ha.1, h.1, h.2, ha.2⟩
          · rfl
        rw [hst]
        rcases ih (by omega) with ⟨h1, h2⟩ | ⟨i, hi, h0, h1, h2, h3⟩
        · exact .inl ⟨h1, fun j hj hjn => by
            by_cases e : j = n
            · subst e; exact ho
            · exact h2 j hj (by omega)⟩
        · refine .inr ⟨i, hi, by omega, h1, h2, fun j hj hjn hoj => ?_⟩
          by_cases e : j = n
          · subst e; exact absurd hoj ho
          · exact h3 j hj (by omega) hoj
  have := key l.length (Nat.le_refl _)
  rw [List.take_of_length_le (Nat.le_refl _)] at this
  rcases this with ⟨h1, h2⟩ | ⟨i, hi, _, h1, h2, h3⟩
  · exact .inl ⟨h1, fun j hj => h2 j hj hj⟩
  · exact .inr ⟨i, hi, h1, hi, h2, fun j hj => h3 j hj hj⟩
theorem lastAt_uniq {l : List Fa} {k : Ky} {day kn : Int} {i j : Nat} (h1 : lastAt l k day kn i) (h2 : lastAt l k day kn j) : i = j := by
  obtain ⟨hi, a1, a2⟩ := h1
  obtain ⟨hj, b1, b2⟩ := h2
  rcases Nat.lt_trichotomy i j with h | h | h
  · exact absurd ((a2 j hj b1).2 h) (b2 i hi a1).1
  · exact h
  · exact absurd ((b2 i hi a1).2 h) (a2 j hj b1).1
end Go.Proofs.Ytinhhmnnfbeimaa
