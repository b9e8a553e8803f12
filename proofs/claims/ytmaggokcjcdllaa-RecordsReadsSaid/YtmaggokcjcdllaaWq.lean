/- Facts: the spans of days on which two lists of values differ. Conditions: none. -/
import Derived.Test.YtmaggokcjcdllaaWd
import Derived.Test.YtmaggokcjcdllaaWp
set_option linter.unusedSimpArgs false
set_option linter.unusedVariables false
namespace Go.Proofs.Ytmaggokcjcdllaa
open Go.Avc
/-- The spans of the days before n that have a property. -/
def spN (dif : Nat → Bool) : Nat → List (Int × Int)
  | 0 => []
  | n + 1 => if dif n = true then (match (spN dif n).getLast? with
    | some p => if p.2 = n then (spN dif n).dropLast ++ [(p.1, (n : Int) + 1)] else spN dif n ++ [((n : Int), (n : Int) + 1)]
    | none => spN dif n ++ [((n : Int), (n : Int) + 1)]) else spN dif n
theorem spN_no {dif : Nat → Bool} {n : Nat} (h : dif n = false) : spN dif (n + 1) = spN dif n := by simp [spN, h]
theorem spN_to (dif : Nat → Bool) : ∀ (n : Nat) (p : Int × Int), p ∈ spN dif n → 0 ≤ p.1 ∧ p.1 < p.2 ∧ p.2 ≤ n
  | 0, p, h => by cases h
  | n + 1, p, h => by
    have ih := spN_to dif n
    unfold spN at h
    split at h
    · split at h
      · rename_i q hq
        have hqm := List.mem_of_getLast? hq
        split at h
        · rw [List.mem_append, List.mem_singleton] at h
          rcases h with h | rfl
          · have := ih p (List.dropLast_subset _ h); omega
          · have := ih q hqm; simp only; omega
        · rw [List.mem_append, List.mem_singleton] at h
          rcases h with h | rfl
          · have := ih p h; omega
          · simp only; omega
      · rw [List.mem_append, List.mem_singleton] at h
        rcases h with h | rfl
        · have := ih p h; omega
        · simp only; omega
    · have := ih p h; omega
/-- No span ends on this day. -/
def closed (dif : Nat → Bool) (n : Nat) : Prop := ∀ p, (spN dif n).getLast? = some p → p.2 ≠ n
theorem closed_no {dif : Nat → Bool} {n : Nat} (h : dif n = false) : closed dif (n + 1) := fun p hp => by
  rw [spN_no h] at hp
  have := (spN_to dif n p (List.mem_of_getLast? hp)).2.2
  omega
theorem spN_run {dif : Nat → Bool} {f : Nat} (hc : closed dif f) : ∀ {m : Nat}, (∀ j, j < m + 1 → dif (f + j) = true) → spN dif (f + m + 1) = spN dif f ++ [((f : Int), ((f + m + 1 : Nat) : Int))]
  | 0, h => by
    have h0 := h 0 (by omega)
    simp only [Nat.add_zero] at h0 ⊢
    rw [spN, if_pos h0]
    split
    · rename_i p hp
      rw [if_neg (hc p hp)]
      simp
    · simp
  | m + 1, h => by
    have ih := spN_run hc (m := m) fun j hj => h j (by omega)
    have h1 := h (m + 1) (by omega)
    rw [show f + (m + 1) + 1 = (f + m + 1) + 1 by omega, spN, if_pos (by rw [show f + m + 1 = f + (m + 1) by omega]; exact h1), ih]
    simp
theorem spN_run' {dif : Nat → Bool} {d e : Nat} (hc : closed dif d) (h : d < e) (hr : ∀ j, d ≤ j → j < e → dif j = true) : spN dif e = spN dif d ++ [((d : Int), (e : Int))] := by
  have := spN_run hc (m := e - d - 1) fun j hj => hr (d + j) (by omega) (by omega)
  rw [show d + (e - d - 1) + 1 = e by omega] at this
  exact this
def difA (a b : List Int) (d : Nat) : Bool := !decide (a.getD d 0 = b.getD d 0)
def diffF (a b : List Int) : List (Int × Int) := spN (difA a b) 1024
theorem spN_len (dif : Nat → Bool) : ∀ n, (spN dif n).length ≤ n
  | 0 => by simp [spN]
  | n + 1 => by
    have ih := spN_len dif n
    unfold spN
    split
    · split
      · split
        · rw [List.length_append, List.length_dropLast, List.length_singleton]; omega
        · rw [List.length_append, List.length_singleton]; omega
      · rw [List.length_append, List.length_singleton]; omega
    · omega
set_option maxRecDepth 20000
set_option maxHeartbeats 4000000
set_option linter.unusedSimpArgs false
attribute [local irreducible] PSub Wp PSpec Le Need Both
theorem diff_spec (a b : List Int) (ha : a.length = 1024) (hb : b.length = 1024) : PSpec Try.prog 56 [encA a, encA b] (encPts (diffF a b)) := by
  obtain ⟨dif, hdif⟩ : ∃ f, f = difA a b := ⟨_, rfl⟩
  have hd0 : ∀ d, dif d = true ↔ a.getD d 0 ≠ b.getD d 0 := fun d => by rw [hdif]; simp [difA]
  have hres : diffF a b = spN dif 1024 := by rw [hdif]; rfl
  rw [hres]
  refine PSpec.of_vc (fun Γ => more8 false Γ.P Γ.fx) (fun Γ => more8_ok) Try.func56 rfl Try.call56 (by simp) ?_
  rintro ⟨P, N, w0, X, β0, fx, y, hy, pk, df⟩ rfl rfl rfl hoff rfl; change y.on = false at hoff
  skip
  refine Wp.loop (fun d : Nat => ⟨[(0, .pure (encA a)), (1, .pure (encA b)), (4, .lsl 60 0 (spN dif d).length), (5, .int d)], [(60, some (.row 2 ((spN dif d).map encPt)))], [60]⟩) (fun d => d ≤ 1024 ∧ (closed dif d ∨ dif d = false)) (fun d => 1024 - d) 0 (Le.trans (Le.virt (k := 60) (sz := 2) rfl rfl (by omega)) (Le.of ?_ ?_ rfl rfl rfl)) ⟨Nat.zero_le _, .inl fun p hp => by simp [spN] at hp⟩ ?_
  · (repeat' (first | exact trivial | refine And.intro ?_ ?_ | exact Or.inl rfl | exact l6 rfl | fail))
  · (repeat' (first | exact trivial | exact rfl | refine And.intro ?_ ?_ | fail))
  intro d ⟨hd, hcl⟩
  by_cases hd2 : d < 1024
  · have hda : d < a.length := by omega
    have hdb : d < b.length := by omega
    have hdd := hd0 d
    rw [getD_at hda, getD_at hdb] at hdd
    refine code_sound (more := more8 false _ _) more8_ok FOK.wide _ ?_
    repeat' ((try conv => whnf); first | (first | refine k3 (fun hb => ?_) fun hb => ?_ | refine k4 (fun hb => ?_) fun hb => ?_) <;> (try rw [List.length_map] at hb) <;> (try (exfalso; omega; done)) | fail)
    refine Wp.draw (more := more8 true _ _) more8_det more8_ok FOK.wide rfl (by decide +kernel) (by conv => lhs; reduce) ?_
    repeat' ((try conv => whnf); first | (first | refine k3 (fun hb => ?_) fun hb => ?_ | refine k4 (fun hb => ?_) fun hb => ?_) <;> (try rw [List.length_map] at hb) <;> (try (exfalso; omega; done)) | refine And.intro rfl ?_ | refine s4 nm ?_ | refine s5 nm nm ?_ | fail)
    · have h0 : dif d = false := by
        rw [Bool.eq_false_iff]
        intro h
        exact hdd.1 h (by assumption)
      have hn := spN_no h0
      refine ⟨d + 1, Le.of ?_ ?_ rfl rfl rfl, ⟨by omega, .inl (closed_no h0)⟩, by omega⟩
      · rw [hn]; (repeat' (first | exact trivial | refine And.intro ?_ ?_ | exact Or.inl rfl | fail))
      · rw [hn]; (repeat' (first | exact trivial | exact rfl | refine And.intro ?_ ?_ | fail))
    · have h1 : dif d = true := hdd.2 (by assumption)
      have hc : closed dif d := by
        rcases hcl with h | h
        · exact h
        · rw [h1] at h; cases h
      have hlen := spN_len dif d
      refine Wp.loop (fun z : Nat × Int => ⟨[(0, .pure (encA a)), (1, .pure (encA b)), (4, .lsl 60 0 (spN dif d).length), (5, .int z.1), (6, .loc 6 0 0)], [(6, some (.box [.int d, .int z.2])), (60, some (.row 2 ((spN dif d).map encPt)))], [6, 60]⟩)
        (fun z => d ≤ z.1 ∧ z.1 < 1024 ∧ (z.1 = d ∧ z.2 = 0 ∨ d < z.1 ∧ z.2 = z.1) ∧ ∀ j, d ≤ j → j < z.1 → dif j = true) (fun z => 1024 - z.1) (d, 0) (Le.of ?_ ?_ rfl rfl rfl) ⟨Nat.le_refl _, hd2, .inl ⟨rfl, rfl⟩, fun j a1 a2 => by omega⟩ ?_
      · (repeat' (first | exact trivial | refine And.intro ?_ ?_ | exact Or.inl rfl | fail))
      · (repeat' (first | exact trivial | exact rfl | refine And.intro ?_ ?_ | refine Exists.intro _ (And.intro rfl ?_) | exact Or.inl rfl | fail))
      rintro ⟨e, t⟩ ⟨he1, he2, het, her⟩
      dsimp only at he1 he2 het her ⊢
      have hea : e < a.length := by omega
      have heb : e < b.length := by omega
      have hde := hd0 e
      rw [getD_at hea, getD_at heb] at hde
      refine code_sound (more := more8 false _ _) more8_ok FOK.wide _ ?_
      skip
      refine Wp.draw (more := more8 true _ _) more8_det more8_ok FOK.wide rfl (by decide +kernel) (by conv => lhs; reduce) ?_
      repeat' ((try conv => whnf); first | (first | refine k3 (fun hb => ?_) fun hb => ?_ | refine k4 (fun hb => ?_) fun hb => ?_) <;> (try rw [List.length_map] at hb) <;> (try (exfalso; omega; done)) | refine And.intro rfl ?_ | refine s4 nm ?_ | refine s5 nm nm ?_ | refine And.intro bd ?_ | fail)
      · have hne : dif e = false := by
          rw [Bool.eq_false_iff]
          intro h
          exact hde.1 h (by assumption)
        have hlt : d < e ∧ t = e := by
          rcases het with ⟨rfl, _⟩ | h
          · rw [h1] at hne; cases hne
          · exact h
        have hrun := spN_run' hc hlt.1 her
        obtain ⟨hlt, rfl⟩ := hlt
        refine ⟨e, Le.map [(60, 48)] ?_ ?_ rfl rfl rfl rfl, ⟨by omega, .inr hne⟩, by omega⟩
        · rw [hrun]
          (repeat' (first | exact trivial | refine And.intro ?_ ?_ | exact Or.inl rfl | exact SubA.lsl ls | fail))
          all_goals first
            | (refine SubA.lsl ?_; focus (simp; done))
            | (refine rowEq ?_; focus (first | exact (List.map_append ..).symm | exact List.map_append .. | (simp; done) | (rw [List.map_append]; rfl)))
        · rw [hrun]
          (repeat' (first | exact trivial | refine And.intro ?_ ?_ | fail))
          all_goals first
            | (refine SubA.lsl ?_; focus (simp; done))
            | (refine rowEq ?_; focus (first | exact (List.map_append ..).symm | exact List.map_append .. | (simp; done) | (rw [List.map_append]; rfl)))
      · have hrun := spN_run' (e := e + 1) hc (by omega) (fun j a1 a2 => by
          by_cases ej : j = e
          · subst ej; exact hde.2 (by assumption)
          · exact her j a1 (by omega))
        have e24 : e + 1 = 1024 := by omega
        rw [e24] at hrun
        rw [hrun]
        refine sub_sl ?_
        rw [List.drop_zero, List.take_of_length_le (by simp), List.map_append]
        have e25 : (e : Int) + 1 = ((1024 : Nat) : Int) := by omega
        rw [e25]
        rfl
      · refine ⟨(e + 1, (e : Int) + 1), Le.of (by (repeat' (first | exact trivial | refine And.intro ?_ ?_ | exact Or.inl rfl | fail))) (by (repeat' (first | exact trivial | exact rfl | refine And.intro ?_ ?_ | refine Exists.intro _ (And.intro rfl ?_) | exact Or.inl rfl | fail))) rfl rfl rfl, ⟨by simp only; omega, by simp only; omega, .inr ⟨by simp only; omega, by simp only; omega⟩, fun j a1 a2 => ?_⟩, by simp only; omega⟩
        simp only at a1 a2
        by_cases ej : j = e
        · subst ej; exact hde.2 (by assumption)
        · exact her j a1 (by omega)
  · have e : d = 1024 := by omega
    subst e
    refine code_sound (more := more8 false _ _) more8_ok FOK.wide _ ?_
    skip
    exact sub_sl (by rw [List.drop_zero, List.take_of_length_le (by simp)])
end Go.Proofs.Ytmaggokcjcdllaa
/- Facts: what was read is alike at two times. Conditions: none. -/
namespace Go.Proofs.Ytmaggokcjcdllaa
open Go.Avc
def ofKey (l : List Fa) (k : Ky) : List Fa := l.filter fun f => decide (f.key = k)
theorem grw_fac (l : List Fa) (k : Ky) : grw (facL l) k = (ofKey l k).map encFa := by
  unfold grw facL ofKey
  induction l with
  | nil => rfl
  | cons f l ih =>
    simp only [List.map_cons, List.filter_cons]
    by_cases h : f.key = k
    · simp [h, ih]
    · simp [h, ih]
theorem abt_key (l : List Fa) (k : Ky) (kn : Int) : abtF (ofKey l k) k kn = abtF l k kn := by
  unfold abtF ofKey
  rw [List.filter_filter]
  congr 1
  funext f
  unfold abt
  by_cases h : f.key = k <;> simp [h]
theorem pnt_key (l : List Fa) (k : Ky) (kn : Int) : pntL (ofKey l k) k kn = pntL l k kn := by
  unfold pntL pnt atF bestF
  simp only [abt_key]
def grpM (l : List Fa) : List (Ky × PV) := (gks (facL l)).map fun k => (k, .sl 8 (grw (facL l) k))
theorem mget_map {α : Type} [DecidableEq α] (ks : List α) (g : α → PV) (a : α) : mget (ks.map fun k => (k, g k)) a = if a ∈ ks then some (g a) else none := by
  induction ks with
  | nil => rfl
  | cons k ks ih =>
    unfold mget at ih ⊢
    by_cases h : k = a
    · subst h; simp
    · simp only [List.map_cons, List.find?_cons, h, decide_false]
      rw [ih]
      simp [Ne.symm h]
theorem grp_get (l : List Fa) (k : Ky) : (mget (grpM l) k).getD (.sl 8 []) = encFs (ofKey l k) := by
  unfold grpM
  rw [mget_map]
  split
  · rw [Option.getD_some, grw_fac]; rfl
  · rename_i h
    have := grw_none h
    rw [grw_fac] at this
    rw [Option.getD_none]
    show PV.sl 8 [] = .sl 8 _
    rw [this]
theorem grpM_is (l : List Fa) : (gks (facL l)).map kyK.val = (grpM l).map (fun q => kyK.val q.1) ∧ ((gks (facL l)).map fun k => PV.sl 8 (grw (facL l) k)) = (grpM l).map (·.2) := by
  unfold grpM
  constructor <;> (rw [List.map_map]; rfl)
theorem pntL_len (l : List Fa) (k : Ky) (kn : Int) : (pntL l k kn).length = 1024 := by simp [pntL]
theorem mget_mput' {α : Type} [DecidableEq α] (ms : List (α × PV)) (a b : α) (v : PV) : mget (mput ms a v) b = if b = a then some v else mget ms b := by
  induction ms with
  | nil => by_cases h : b = a <;> simp [mput, mget, h, eq_comm]
  | cons q ms ih =>
    by_cases hq : q.1 = a
    · rw [mput, if_pos hq]
      by_cases h : b = a
      · simp [mget, h]
      · have h1 : ¬ a = b := fun e => h e.symm
        have h2 : ¬ q.1 = b := fun e => h (by rw [← e, hq])
        simp [mget, h, h1, h2]
    · rw [mput, if_neg hq]
      by_cases h2 : q.1 = b
      · have h : ¬ b = a := fun e => hq (h2.trans e)
        simp [mget, h2, h]
      · have e1 : mget (q :: mput ms a v) b = mget (mput ms a v) b := by simp [mget, h2]
        have e2 : mget (q :: ms) b = mget ms b := by simp [mget, h2]
        rw [e1, e2, ih]
/-- The spans of the days on which a key is known differently at two times. -/
def ddF (l : List Fa) (k : Ky) (b a : Int) : List (Int × Int) := diffF (pntL l k b) (pntL l k a)
def hitS (r : Rd) (p : Int × Int) : Prop := max p.1 r.lo < min p.2 r.hi
instance (r : Rd) (p : Int × Int) : Decidable (hitS r p) := by unfold hitS; infer_instance
def alikeR (l : List Fa) (b a : Int) (r : Rd) : Prop := ∀ p ∈ ddF l r.key b a, ¬ hitS r p
instance (l : List Fa) (b a : Int) (r : Rd) : Decidable (alikeR l b a r) := by unfold alikeR; infer_instance
def alikeF (l : List Fa) (rs : List Rd) (b a : Int) : Bool := rs.all fun r => decide (alikeR l b a r)
def dmOK (l : List Fa) (b a : Int) (dm : List (Ky × PV)) : Prop := ∀ k, mget dm k = none ∨ mget dm k = some (encPts (ddF l k b a))
set_option maxRecDepth 20000
set_option maxHeartbeats 4000000
set_option linter.unusedSimpArgs false
attribute [local irreducible] PSub Wp PSpec Le Need Both
attribute [local irreducible] Fa.bef atF pntL diffF alikeR
theorem alike_spec (l : List Fa) (rds : List Rd) (b a : Int) (hl : l.length ≤ 100000) (hr : rds.length ≤ 1000000) : PSpec Try.prog 28 [encFs l, encRds rds, .int b, .int a] (.bool (alikeF l rds b a)) := by
  have qg := group_spec l (by omega)
  have hok : kyK.ok Try.prog 46 = true := by kernel_rfl
  have hrl : (rds.map encRd).length = rds.length := List.length_map ..
  obtain ⟨res, hres⟩ : ∃ r, r = alikeF l rds b a := ⟨_, rfl⟩
  rw [← hres]
  have hbad : ∀ i (h : i < rds.length), ¬ alikeR l b a rds[i] → PSub (.val (.bool false)) (.bool res) := fun i h hn => by
    have e : res = false := by
      rw [hres, Bool.eq_false_iff]
      intro h'
      unfold alikeF at h'
      rw [List.all_eq_true] at h'
      exact hn (of_decide_eq_true (h' _ (List.getElem_mem h)))
    rw [e]; exact PSub.refl _
  have hall : (∀ i (h : i < rds.length), alikeR l b a rds[i]) → PSub (.val (.bool true)) (.bool res) := fun h => by
    have e : res = true := by
      rw [hres]
      unfold alikeF
      rw [List.all_eq_true]
      intro x hx
      obtain ⟨i, hi, rfl⟩ := List.getElem_of_mem hx
      exact decide_eq_true (h i hi)
    rw [e]; exact PSub.refl _
  clear hres
  refine PSpec.of_vc (fun Γ => more8 false Γ.P Γ.fx) (fun Γ => more8_ok) Try.func28 rfl Try.call28 (by simp) ?_
  rintro ⟨P, N, w0, X, β0, fx, y, hy, pk, df⟩ rfl rfl rfl hoff rfl; change y.on = false at hoff
  skip
  refine .inl ⟨_, qg, ?_⟩
  repeat' ((try conv => whnf); first | refine And.intro rfl ?_ | fail)
  refine Wp.loop (fun y : Nat × List (Ky × PV) => ⟨[(2, .int b), (3, .int a), (9, .pure (grpPV l)), (10, .mp 20), (21, .pure (encRds rds)), (22, .int rds.length), (23, .int y.1)], [(20, some (.mp (kyK.enc y.2)))], [20]⟩)
    (fun y => y.1 ≤ rds.length ∧ dmOK l b a y.2 ∧ ∀ j (h : j < rds.length), j < y.1 → alikeR l b a rds[j]) (fun y => rds.length - y.1) (0, []) (Le.of ?_ ?_ rfl rfl rfl) ⟨Nat.zero_le _, fun k => .inl rfl, fun j _ h => absurd h (Nat.not_lt_zero _)⟩ ?_
  · (repeat' (first | exact trivial | refine And.intro ?_ ?_ | exact Or.inl rfl | exact l1 bd | fail))
  · (repeat' (first | exact trivial | exact rfl | refine And.intro ?_ ?_ | fail))
  rintro ⟨i, dm⟩ ⟨hi, hdm, hgood⟩
  dsimp only at hi hdm hgood ⊢
  by_cases hi2 : i < rds.length
  · obtain ⟨D, hD⟩ : ∃ D, D = ddF l rds[i].key b a := ⟨_, rfl⟩
    have hdl : D.length ≤ 1024 := by rw [hD]; unfold ddF diffF; exact spN_len _ _
    have hDl : (D.map encPt).length = D.length := List.length_map ..
    have hdm0 := hdm rds[i].key
    rw [← hD] at hdm0
    rcases hdm0 with hn | hs
    · have g1 := grp_get l rds[i].key
      have p1 := paint_spec (ofKey l rds[i].key) rds[i].key b (by unfold ofKey; have := List.length_filter_le (fun f => decide (f.key = rds[i].key)) l; omega)
      have p2 := paint_spec (ofKey l rds[i].key) rds[i].key a (by unfold ofKey; have := List.length_filter_le (fun f => decide (f.key = rds[i].key)) l; omega)
      rw [pnt_key] at p1 p2
      have p3 := diff_spec (pntL l rds[i].key b) (pntL l rds[i].key a) (pntL_len ..) (pntL_len ..)
      rw [show diffF (pntL l rds[i].key b) (pntL l rds[i].key a) = D by rw [hD]; rfl] at p3
      obtain ⟨dm', hdm'⟩ : ∃ x, mput dm rds[i].key (encPts D) = x := ⟨_, rfl⟩
      have hget' : ∀ z, (mget dm' rds[i].key).getD z = encPts D := fun z => by rw [← hdm', mget_mput', if_pos rfl]; rfl
      have hdmn : dmOK l b a dm' := fun k => by
        rw [← hdm', mget_mput']
        split
        · rename_i e; subst e; rw [hD]; exact .inr rfl
        · exact hdm k
      refine code_sound (more := more8 false _ _) more8_ok FOK.wide _ ?_
      repeat' ((try conv => whnf); first | (first | refine k3 (fun hb => ?_) fun hb => ?_ | refine k4 (fun hb => ?_) fun hb => ?_) <;> (try rw [List.length_map] at hb) <;> (try (exfalso; omega; done)) | refine And.intro rfl ?_ | refine s5 nm nm ?_ | fail)
      refine ⟨_, inferInstance, kyK, rds[i].key, dm, hok, rfl, rfl, _, _, by rw [hn], by rw [hn], ?_⟩
      skip
      refine Wp.draw (more := more8 true _ _) more8_det more8_ok FOK.wide rfl (by decide +kernel) (by conv => lhs; reduce) ?_
      skip
      refine ⟨_, inferInstance, kyK, rds[i].key, grpM l, hok, rfl, grpM_is l, _, g1, ?_⟩
      skip
      refine ⟨_, p1, ?_⟩
      repeat' ((try conv => whnf); first | refine And.intro rfl ?_ | fail)
      refine ⟨_, inferInstance, kyK, rds[i].key, grpM l, hok, rfl, grpM_is l, _, g1, ?_⟩
      skip
      refine ⟨_, p2, ?_⟩
      repeat' ((try conv => whnf); first | refine And.intro rfl ?_ | fail)
      refine ⟨_, p3, ?_⟩
      repeat' ((try conv => whnf); first | refine And.intro rfl ?_ | fail)
      refine ⟨_, inferInstance, kyK, rds[i].key, dm, dm', hok, rfl, rfl, hdm', ?_⟩
      skip
      refine ⟨_, inferInstance, kyK, rds[i].key, dm', hok, rfl, rfl, _, hget' _, ?_⟩
      skip
      refine Wp.loop (fun m : Nat => ⟨[(2, .int b), (3, .int a), (9, .pure (grpPV l)), (10, .mp 20), (12, .loc 12 0 0), (21, .pure (encRds rds)), (22, .int rds.length), (23, .int i), (54, .pure (encPts D)), (55, .int D.length), (56, .int m)], [(20, some (.mp (kyK.enc dm'))), (12, some (.box (pures (encRd rds[i]))))], [20, 12]⟩)
        (fun m => m ≤ D.length ∧ ∀ j (h : j < D.length), j < m → ¬ hitS rds[i] D[j]) (fun m => D.length - m) 0 (Le.of ?_ ?_ rfl rfl rfl) ⟨Nat.zero_le _, fun j _ h => absurd h (Nat.not_lt_zero _)⟩ ?_
      · (repeat' (first | exact trivial | refine And.intro ?_ ?_ | exact Or.inl rfl | exact l1 bd | fail))
      · (repeat' (first | exact trivial | exact rfl | refine And.intro ?_ ?_ | refine Exists.intro _ (And.intro rfl ?_) | exact Or.inl rfl | fail))
      intro m ⟨hm, hno⟩
      by_cases hm2 : m < D.length
      · have hmp : (D.map encPt)[m]? = some (encPt D[m]) := by simp [hm2]
        refine code_sound (more := more8 false _ _) more8_ok FOK.wide _ ?_
        repeat' ((try conv => whnf); first | (first | refine k3 (fun hb => ?_) fun hb => ?_ | refine k4 (fun hb => ?_) fun hb => ?_) <;> (try rw [List.length_map] at hb) <;> (try (exfalso; omega; done)) | refine And.intro rfl ?_ | refine s4 nm ?_ | refine s5 nm nm ?_ | fail)
        · exact hbad i hi2 fun h => by
            unfold alikeR at h
            exact h D[m] (by rw [← hD]; exact List.getElem_mem hm2) (by unfold hitS; assumption)
        · refine ⟨m + 1, Le.of (by (repeat' (first | exact trivial | refine And.intro ?_ ?_ | exact Or.inl rfl | fail))) (by (repeat' (first | exact trivial | exact rfl | refine And.intro ?_ ?_ | refine Exists.intro _ (And.intro rfl ?_) | exact Or.inl rfl | fail))) rfl rfl rfl, ⟨by omega, fun j hj hjm => ?_⟩, by omega⟩
          by_cases e : j = m
          · subst e; unfold hitS; assumption
          · exact hno j hj (by omega)
      · refine code_sound (more := more8 false _ _) more8_ok FOK.wide _ ?_
        repeat' ((try conv => whnf); first | (first | refine k3 (fun hb => ?_) fun hb => ?_ | refine k4 (fun hb => ?_) fun hb => ?_) <;> (try rw [List.length_map] at hb) <;> (try (exfalso; omega; done)) | refine s4 nm ?_ | fail)
        refine ⟨(i + 1, dm'), Le.of (by (repeat' (first | exact trivial | refine And.intro ?_ ?_ | exact Or.inl rfl | fail))) (by (repeat' (first | exact trivial | exact rfl | refine And.intro ?_ ?_ | fail))) rfl rfl rfl, ⟨hi2, hdmn, fun j hj hjm => ?_⟩, by simp only; omega⟩
        simp only at hjm
        by_cases e : j = i
        · subst e
          unfold alikeR
          rw [← hD]
          intro p hp
          obtain ⟨x, hx, rfl⟩ := List.getElem_of_mem hp
          exact hno x hx (by omega)
        · exact hgood j hj (by omega)
    · have hget' : ∀ z, (mget dm rds[i].key).getD z = encPts D := fun z => by rw [hs]; rfl
      refine code_sound (more := more8 false _ _) more8_ok FOK.wide _ ?_
      repeat' ((try conv => whnf); first | (first | refine k3 (fun hb => ?_) fun hb => ?_ | refine k4 (fun hb => ?_) fun hb => ?_) <;> (try rw [List.length_map] at hb) <;> (try (exfalso; omega; done)) | refine And.intro rfl ?_ | refine s5 nm nm ?_ | fail)
      refine ⟨_, inferInstance, kyK, rds[i].key, dm, hok, rfl, rfl, _, _, hget' _, by rw [hs], ?_⟩
      skip
      refine ⟨_, inferInstance, kyK, rds[i].key, dm, hok, rfl, rfl, _, hget' _, ?_⟩
      skip
      refine Wp.loop (fun m : Nat => ⟨[(2, .int b), (3, .int a), (9, .pure (grpPV l)), (10, .mp 20), (12, .loc 12 0 0), (21, .pure (encRds rds)), (22, .int rds.length), (23, .int i), (54, .pure (encPts D)), (55, .int D.length), (56, .int m)], [(20, some (.mp (kyK.enc dm))), (12, some (.box (pures (encRd rds[i]))))], [20, 12]⟩)
        (fun m => m ≤ D.length ∧ ∀ j (h : j < D.length), j < m → ¬ hitS rds[i] D[j]) (fun m => D.length - m) 0 (Le.of ?_ ?_ rfl rfl rfl) ⟨Nat.zero_le _, fun j _ h => absurd h (Nat.not_lt_zero _)⟩ ?_
      · (repeat' (first | exact trivial | refine And.intro ?_ ?_ | exact Or.inl rfl | exact l1 bd | fail))
      · (repeat' (first | exact trivial | exact rfl | refine And.intro ?_ ?_ | refine Exists.intro _ (And.intro rfl ?_) | exact Or.inl rfl | fail))
      intro m ⟨hm, hno⟩
      by_cases hm2 : m < D.length
      · have hmp : (D.map encPt)[m]? = some (encPt D[m]) := by simp [hm2]
        refine code_sound (more := more8 false _ _) more8_ok FOK.wide _ ?_
        repeat' ((try conv => whnf); first | (first | refine k3 (fun hb => ?_) fun hb => ?_ | refine k4 (fun hb => ?_) fun hb => ?_) <;> (try rw [List.length_map] at hb) <;> (try (exfalso; omega; done)) | refine And.intro rfl ?_ | refine s4 nm ?_ | refine s5 nm nm ?_ | fail)
        · exact hbad i hi2 fun h => by
            unfold alikeR at h
            exact h D[m] (by rw [← hD]; exact List.getElem_mem hm2) (by unfold hitS; assumption)
        · refine ⟨m + 1, Le.of (by (repeat' (first | exact trivial | refine And.intro ?_ ?_ | exact Or.inl rfl | fail))) (by (repeat' (first | exact trivial | exact rfl | refine And.intro ?_ ?_ | refine Exists.intro _ (And.intro rfl ?_) | exact Or.inl rfl | fail))) rfl rfl rfl, ⟨by omega, fun j hj hjm => ?_⟩, by omega⟩
          by_cases e : j = m
          · subst e; unfold hitS; assumption
          · exact hno j hj (by omega)
      · refine code_sound (more := more8 false _ _) more8_ok FOK.wide _ ?_
        repeat' ((try conv => whnf); first | (first | refine k3 (fun hb => ?_) fun hb => ?_ | refine k4 (fun hb => ?_) fun hb => ?_) <;> (try rw [List.length_map] at hb) <;> (try (exfalso; omega; done)) | refine s4 nm ?_ | fail)
        refine ⟨(i + 1, dm), Le.of (by (repeat' (first | exact trivial | refine And.intro ?_ ?_ | exact Or.inl rfl | fail))) (by (repeat' (first | exact trivial | exact rfl | refine And.intro ?_ ?_ | fail))) rfl rfl rfl, ⟨hi2, hdm, fun j hj hjm => ?_⟩, by simp only; omega⟩
        simp only at hjm
        by_cases e : j = i
        · subst e
          unfold alikeR
          rw [← hD]
          intro p hp
          obtain ⟨x, hx, rfl⟩ := List.getElem_of_mem hp
          exact hno x hx (by omega)
        · exact hgood j hj (by omega)
  · refine code_sound (more := more8 false _ _) more8_ok FOK.wide _ ?_
    repeat' ((try conv => whnf); first | (first | refine k3 (fun hb => ?_) fun hb => ?_ | refine k4 (fun hb => ?_) fun hb => ?_) <;> (try rw [List.length_map] at hb) <;> (try (exfalso; omega; done)) | fail)
    exact hall fun j hj => hgood j hj (by omega)
end Go.Proofs.Ytmaggokcjcdllaa
