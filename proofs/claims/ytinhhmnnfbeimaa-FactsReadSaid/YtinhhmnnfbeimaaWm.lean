/- Facts: the law FactsPoints. Conditions: none. -/
import Derived.Test.YtinhhmnnfbeimaaWd
import Derived.Test.YtinhhmnnfbeimaaWl
set_option linter.unusedSimpArgs false
set_option linter.unusedVariables false
namespace Go.Proofs.Ytinhhmnnfbeimaa
open Go.Avc
theorem and31 (s : Int) : ∃ n : Nat, n < 32 ∧ bits .and .i64 s 31 = (n : Int) := by
  refine ⟨(BitVec.ofInt 64 s &&& BitVec.ofInt 64 31).toNat, ?_, ?_⟩
  · rw [BitVec.toNat_and]
    exact Nat.and_lt_two_pow (n := 5) _ (by decide)
  · have h : (BitVec.ofInt 64 s &&& BitVec.ofInt 64 31).toNat < 32 := by
      rw [BitVec.toNat_and]
      exact Nat.and_lt_two_pow (n := 5) _ (by decide)
    simp only [bits]
    exact wI (n := (((BitVec.ofInt 64 s &&& BitVec.ofInt 64 31).toNat : Nat) : Int)) (by omega)
/-- How many points lie on the days before this one. -/
def cntP (l : List Fa) (k : Ky) (lo hi kn : Int) (day : Nat) : Nat := (ptsN l k (max 0 lo) (min (min hi 1024 - max 0 lo).toNat ((day : Int) - max 0 lo).toNat) kn).length
theorem ptsN_prefix (l : List Fa) (k : Ky) (d kn : Int) (i : Nat) : ∀ m, i ≤ m → ∃ r, ptsN l k d m kn = ptsN l k d i kn ++ r
  | 0, h => ⟨[], by rw [show i = 0 by omega]; simp⟩
  | m + 1, h => by
    by_cases e : i = m + 1
    · exact ⟨[], by rw [e]; simp⟩
    · obtain ⟨r, hr⟩ := ptsN_prefix l k d kn i m (by omega)
      rw [ptsN_succ, hr]
      split
      · exact ⟨r ++ [_], by rw [List.append_assoc]⟩
      · exact ⟨r, rfl⟩
theorem cntP_no {l : List Fa} {k : Ky} {lo hi kn : Int} {day : Nat} (h1 : day < 1024) (h : (atF l k day kn).2 = false ∨ (day : Int) < lo ∨ hi ≤ (day : Int)) : cntP l k lo hi kn (day + 1) = cntP l k lo hi kn day := by
  unfold cntP
  obtain ⟨d, hd⟩ : ∃ d, d = max 0 lo := ⟨_, rfl⟩
  obtain ⟨m, hm⟩ : ∃ m, m = (min hi 1024 - d).toNat := ⟨_, rfl⟩
  rw [← hd, ← hm]
  by_cases hin : d ≤ (day : Int) ∧ ((day : Int) - d).toNat < m
  · have hat : (atF l k day kn).2 = false := by
      rcases h with h | h | h
      · exact h
      · omega
      · omega
    have e1 : min m (((day + 1 : Nat) : Int) - d).toNat = ((day : Int) - d).toNat + 1 := by omega
    have e2 : min m ((day : Int) - d).toNat = ((day : Int) - d).toNat := by omega
    rw [e1, e2, ptsN_succ, if_neg]
    rw [show d + (((day : Int) - d).toNat : Int) = day by omega, hat]
    exact Bool.false_ne_true
  · have e : min m (((day + 1 : Nat) : Int) - d).toNat = min m ((day : Int) - d).toNat := by omega
    rw [e]
theorem cntP_yes {l : List Fa} {k : Ky} {lo hi kn v : Int} {day : Nat} (h1 : day < 1024) (hv : atF l k day kn = (v, true)) (hlo : lo ≤ (day : Int)) (hhi : (day : Int) < hi) :
    (ptsF l k lo hi kn)[cntP l k lo hi kn day]? = some ((day : Int), v) ∧ cntP l k lo hi kn (day + 1) = cntP l k lo hi kn day + 1 := by
  unfold cntP ptsF
  obtain ⟨d, hd⟩ : ∃ d, d = max 0 lo := ⟨_, rfl⟩
  obtain ⟨m, hm⟩ : ∃ m, m = (min hi 1024 - d).toNat := ⟨_, rfl⟩
  rw [← hd, ← hm]
  have e1 : min m (((day + 1 : Nat) : Int) - d).toNat = ((day : Int) - d).toNat + 1 := by omega
  have e2 : min m ((day : Int) - d).toNat = ((day : Int) - d).toNat := by omega
  have e3 : d + (((day : Int) - d).toNat : Int) = day := by omega
  have hs := ptsN_succ l k d ((day : Int) - d).toNat kn
  rw [e3, hv] at hs
  rw [if_pos rfl] at hs
  obtain ⟨r, hr⟩ := ptsN_prefix l k d kn (((day : Int) - d).toNat + 1) m (by omega)
  rw [e1, e2, hr, hs]
  constructor
  · rw [List.append_assoc, List.getElem?_append_right (Nat.le_refl _), Nat.sub_self]
    rfl
  · rw [List.length_append, List.length_singleton]
theorem cntP_end (l : List Fa) (k : Ky) (lo hi kn : Int) : cntP l k lo hi kn 1024 = (ptsF l k lo hi kn).length := by
  unfold cntP ptsF
  rw [show min (min hi 1024 - max 0 lo).toNat (((1024 : Nat) : Int) - max 0 lo).toNat = (min hi 1024 - max 0 lo).toNat by omega]
theorem cntP_zero (l : List Fa) (k : Ky) (lo hi kn : Int) : cntP l k lo hi kn 0 = 0 := by
  unfold cntP
  rw [show min (min hi 1024 - max 0 lo).toNat (((0 : Nat) : Int) - max 0 lo).toNat = 0 by omega]
  rfl
set_option maxRecDepth 20000
set_option maxHeartbeats 4000000
set_option linter.unusedSimpArgs false
attribute [local irreducible] PSub Wp PSpec Le Need Both
attribute [local irreducible] atF addF chF chkF ptsF alikeF uptoF cntP
theorem points_law (l : List Fa) (hl : l.length ≤ 140737488355328) (k : Ky) (lo hi kn : Int) : PSpec Try.prog 10 [encFs l, .agg (encKy k), .int lo, .int hi, .int kn] (.bool true) := by
  obtain ⟨t, ht⟩ : ∃ t : Bool, t = true := ⟨_, rfl⟩
  have q0 := sane_spec
  rw [← ht] at q0
  by_cases hfew : l.length ≤ 30
  case neg =>
    have qf := few_spec l hl
    rw [decide_eq_false hfew] at qf
    refine PSpec.of_vc (fun Γ => more8 false Γ.P Γ.fx) (fun Γ => more8_ok) Try.func10 rfl Try.call10 (by simp) ?_
    rintro ⟨P, N, w0, X, β0, fx, y, hy, pk, df⟩ rfl rfl rfl hoff rfl; change y.on = false at hoff
    skip
    refine .inl ⟨_, q0, ?_⟩
    repeat' ((try conv => whnf); first | refine k5 (fun hb => ?_) fun hb => ?_ | fail)
    all_goals first
      | (exfalso; subst ht; contradiction)
      | skip
    refine .inl ⟨_, qf, ?_⟩
    skip
    exact PSub.refl _
  have qf := few_spec l hl
  rw [decide_eq_true hfew, ← ht] at qf
  have hlm : (l.map encFa).length = l.length := List.length_map ..
  by_cases hl0 : 0 < l.length
  · refine PSpec.of_vc (fun Γ => more8 false Γ.P Γ.fx) (fun Γ => more8_ok) Try.func10 rfl Try.call10 (by simp) ?_
    rintro ⟨P, N, w0, X, β0, fx, y, hy, pk, df⟩ rfl rfl rfl hoff rfl; change y.on = false at hoff
    skip
    refine .inl ⟨_, q0, ?_⟩
    repeat' ((try conv => whnf); first | refine k5 (fun hb => ?_) fun hb => ?_ | fail)
    all_goals first
      | (exfalso; subst ht; contradiction)
      | (exfalso; simp_all; done)
      | skip
    refine .inl ⟨_, qf, ?_⟩
    repeat' ((try conv => whnf); first | (first | refine k3 (fun hb => ?_) fun hb => ?_ | refine k4 (fun hb => ?_) fun hb => ?_) <;> (try rw [List.length_map] at hb) <;> (try (exfalso; omega; done)) | refine k5 (fun hb => ?_) fun hb => ?_ | fail)
    all_goals first
      | (exfalso; subst ht; contradiction)
      | (exfalso; simp_all; done)
      | skip
    obtain ⟨sb, hsb, hse⟩ := and31 k.subj
    have hml : ((sb % l.length : Nat) : Int).toNat < l.length := by
      have := Nat.mod_lt sb hl0
      omega
    have hml2 : ((sb % l.length : Nat) : Int) < l.length := by
      have := Nat.mod_lt sb hl0
      omega
    have qp := points_spec l (l[((sb % l.length : Nat) : Int).toNat]'hml).key lo hi kn (by omega)
    have hpl := ptsF_len l (l[((sb % l.length : Nat) : Int).toNat]'hml).key lo hi kn
    have hend := cntP_end l (l[((sb % l.length : Nat) : Int).toNat]'hml).key lo hi kn
    have hat := fun d : Nat => at_spec l (l[((sb % l.length : Nat) : Int).toNat]'hml).key d kn (by omega)
    have hno := fun (d : Nat) (h1 : d < 1024) h => cntP_no (l := l) (k := (l[((sb % l.length : Nat) : Int).toNat]'hml).key) (lo := lo) (hi := hi) (kn := kn) h1 h
    have hyes := fun (d : Nat) (v : Int) (h1 : d < 1024) hv h2 h3 => cntP_yes (l := l) (k := (l[((sb % l.length : Nat) : Int).toNat]'hml).key) (lo := lo) (hi := hi) (kn := kn) (v := v) (day := d) h1 hv h2 h3
    have hzero := cntP_zero l (l[((sb % l.length : Nat) : Int).toNat]'hml).key lo hi kn
    have hcb : ∀ d, cntP l (l[((sb % l.length : Nat) : Int).toNat]'hml).key lo hi kn d ≤ 1024 := fun d => by
      have h1 := ptsN_len l (l[((sb % l.length : Nat) : Int).toNat]'hml).key (max 0 lo) (min (min hi 1024 - max 0 lo).toNat ((d : Int) - max 0 lo).toNat) kn
      unfold cntP
      omega
    refine ⟨(sb : Int), hse, ?_⟩
    repeat' ((try conv => whnf); first | refine And.intro bd ?_ | fail)
    refine ⟨((sb % l.length : Nat) : Int), by rw [hlm]; rfl, ?_⟩
    repeat' ((try conv => whnf); first | refine And.intro rfl ?_ | refine s5 nm nm ?_ | fail)
    refine .inl ⟨_, qp, ?_⟩
    repeat' ((try conv => whnf); first | refine And.intro rfl ?_ | fail)
    obtain ⟨p, hp⟩ : ∃ p, p = ptsF l (l[((sb % l.length : Nat) : Int).toNat]'hml).key lo hi kn := ⟨_, rfl⟩
    rw [← hp] at hpl hend hyes ⊢
    obtain ⟨cnt, hcnt⟩ : ∃ c, c = cntP l (l[((sb % l.length : Nat) : Int).toNat]'hml).key lo hi kn := ⟨_, rfl⟩
    rw [← hcnt] at hend hno hyes hzero hcb
    have hpm : (p.map encPt).length = p.length := List.length_map ..
    refine Wp.loop (fun d : Nat => ⟨[(0, .pure (encFs l)), (2, .int lo), (3, .int hi), (4, .int kn), (6, .loc 6 0 0), (11, .pure (encPts p)), (12, .int (cnt d)), (13, .int d)], [(6, some (.box (pures (encKy (l[((sb % l.length : Nat) : Int).toNat]'hml).key))))], [6]⟩) (fun d => d ≤ 1024) (fun d => 1024 - d) 0 (Le.of ?_ ?_ rfl rfl rfl) (Nat.zero_le _) ?_
    · rw [hzero]; (repeat' (first | exact trivial | refine And.intro ?_ ?_ | exact Or.inl rfl | fail))
    · (repeat' (first | exact trivial | refine And.intro ?_ ?_ | refine Exists.intro _ (And.intro rfl ?_) | exact Or.inl rfl | fail))
    intro d hd
    by_cases hd2 : d < 1024
    · have q := hat d
      have hno := hno d hd2
      have hyes := fun v => hyes d v hd2
      obtain ⟨⟨v, o⟩, hx⟩ : ∃ x, x = atF l (l[((sb % l.length : Nat) : Int).toNat]'hml).key d kn := ⟨_, rfl⟩
      rw [← hx] at q hno hyes
      have hcb1 := hcb d
      by_cases hc : o = true ∧ lo ≤ (d : Int) ∧ (d : Int) < hi
      · obtain ⟨rfl, hc2, hc3⟩ := hc
        obtain ⟨y1, y2⟩ := hyes v rfl hc2 hc3
        have y3 : cnt d < p.length := by
          have := (List.getElem?_eq_some_iff.1 y1).1
          exact this
        have y4 : p[cnt d] = ((d : Int), v) := (List.getElem?_eq_some_iff.1 y1).2
        have y5 : (p[cnt d]).1 = d := by rw [y4]
        have y6 : (p[cnt d]).2 = v := by rw [y4]
        refine code_sound (more := more8 false _ _) more8_ok FOK.wide _ ?_
        repeat' ((try conv => whnf); first | (first | refine k3 (fun hb => ?_) fun hb => ?_ | refine k4 (fun hb => ?_) fun hb => ?_) <;> (try rw [List.length_map] at hb) <;> (try (exfalso; omega; done)) | fail)
        refine .inl ⟨_, q, ?_⟩
        repeat' ((try conv => whnf); first | (first | refine k3 (fun hb => ?_) fun hb => ?_ | refine k4 (fun hb => ?_) fun hb => ?_) <;> (try rw [List.length_map] at hb) <;> (try (exfalso; omega; done)) | refine s4 nm ?_ | refine s5 nm nm ?_ | fail)
        refine ⟨d + 1, Le.of ?_ (by (repeat' (first | exact trivial | refine And.intro ?_ ?_ | refine Exists.intro _ (And.intro rfl ?_) | exact Or.inl rfl | fail))) rfl rfl rfl, by omega, by omega⟩
        rw [y2]
        (repeat' (first | exact trivial | refine And.intro ?_ ?_ | exact Or.inl rfl | fail))
      · have hcn := hno (by
          by_cases ho : o = true
          · by_cases h2 : lo ≤ (d : Int)
            · exact .inr (.inr (Int.not_lt.1 fun h => hc ⟨ho, h2, h⟩))
            · exact .inr (.inl (by omega))
          · exact .inl (by simpa using ho))
        have hc' : o = true → lo ≤ (d : Int) → ¬ (d : Int) < hi := fun h1 h2 h3 => hc ⟨h1, h2, h3⟩
        refine code_sound (more := more8 false _ _) more8_ok FOK.wide _ ?_
        repeat' ((try conv => whnf); first | (first | refine k3 (fun hb => ?_) fun hb => ?_ | refine k4 (fun hb => ?_) fun hb => ?_) <;> (try rw [List.length_map] at hb) <;> (try (exfalso; omega; done)) | fail)
        refine .inl ⟨_, q, ?_⟩
        repeat' ((try conv => whnf); first | (first | refine k3 (fun hb => ?_) fun hb => ?_ | refine k4 (fun hb => ?_) fun hb => ?_) <;> (try rw [List.length_map] at hb) <;> (try (exfalso; omega; done)) | refine k5 (fun hb => ?_) fun hb => ?_ | refine s4 nm ?_ | refine s5 nm nm ?_ | fail)
        all_goals first
          | (refine ⟨d + 1, Le.of ?_ (by (repeat' (first | exact trivial | refine And.intro ?_ ?_ | refine Exists.intro _ (And.intro rfl ?_) | exact Or.inl rfl | fail))) rfl rfl rfl, by omega, by omega⟩; rw [hcn]; (repeat' (first | exact trivial | refine And.intro ?_ ?_ | exact Or.inl rfl | fail)); done)
          | (exfalso; exact hc' (by assumption) (by omega) (by omega))
    · have ed : d = 1024 := by omega
      subst ed
      refine code_sound (more := more8 false _ _) more8_ok FOK.wide _ ?_
      skip
      exact PSub.of_eq (congrArg (fun b => PV.val (.bool b)) (decide_eq_true (by rw [hend]; omega)))
  · have qp := points_spec l k lo hi kn (by omega)
    have hpl := ptsF_len l k lo hi kn
    have hend := cntP_end l k lo hi kn
    have hat := fun d : Nat => at_spec l k d kn (by omega)
    have hno := fun (d : Nat) (h1 : d < 1024) h => cntP_no (l := l) (k := k) (lo := lo) (hi := hi) (kn := kn) h1 h
    have hyes := fun (d : Nat) (v : Int) (h1 : d < 1024) hv h2 h3 => cntP_yes (l := l) (k := k) (lo := lo) (hi := hi) (kn := kn) (v := v) (day := d) h1 hv h2 h3
    have hzero := cntP_zero l k lo hi kn
    have hcb : ∀ d, cntP l k lo hi kn d ≤ 1024 := fun d => by
      have h1 := ptsN_len l k (max 0 lo) (min (min hi 1024 - max 0 lo).toNat ((d : Int) - max 0 lo).toNat) kn
      unfold cntP
      omega
    refine PSpec.of_vc (fun Γ => more8 false Γ.P Γ.fx) (fun Γ => more8_ok) Try.func10 rfl Try.call10 (by simp) ?_
    rintro ⟨P, N, w0, X, β0, fx, y, hy, pk, df⟩ rfl rfl rfl hoff rfl; change y.on = false at hoff
    skip
    refine .inl ⟨_, q0, ?_⟩
    repeat' ((try conv => whnf); first | refine k5 (fun hb => ?_) fun hb => ?_ | fail)
    all_goals first
      | (exfalso; subst ht; contradiction)
      | (exfalso; simp_all; done)
      | skip
    refine .inl ⟨_, qf, ?_⟩
    repeat' ((try conv => whnf); first | (first | refine k3 (fun hb => ?_) fun hb => ?_ | refine k4 (fun hb => ?_) fun hb => ?_) <;> (try rw [List.length_map] at hb) <;> (try (exfalso; omega; done)) | refine k5 (fun hb => ?_) fun hb => ?_ | fail)
    all_goals first
      | (exfalso; subst ht; contradiction)
      | (exfalso; simp_all; done)
      | skip
    refine .inl ⟨_, qp, ?_⟩
    repeat' ((try conv => whnf); first | refine And.intro rfl ?_ | fail)
    obtain ⟨p, hp⟩ : ∃ p, p = ptsF l k lo hi kn := ⟨_, rfl⟩
    rw [← hp] at hpl hend hyes ⊢
    obtain ⟨cnt, hcnt⟩ : ∃ c, c = cntP l k lo hi kn := ⟨_, rfl⟩
    rw [← hcnt] at hend hno hyes hzero hcb
    have hpm : (p.map encPt).length = p.length := List.length_map ..
    refine Wp.loop (fun d : Nat => ⟨[(0, .pure (encFs l)), (2, .int lo), (3, .int hi), (4, .int kn), (6, .loc 6 0 0), (11, .pure (encPts p)), (12, .int (cnt d)), (13, .int d)], [(6, some (.box (pures (encKy k))))], [6]⟩) (fun d => d ≤ 1024) (fun d => 1024 - d) 0 (Le.of ?_ ?_ rfl rfl rfl) (Nat.zero_le _) ?_
    · rw [hzero]; (repeat' (first | exact trivial | refine And.intro ?_ ?_ | exact Or.inl rfl | fail))
    · (repeat' (first | exact trivial | refine And.intro ?_ ?_ | refine Exists.intro _ (And.intro rfl ?_) | exact Or.inl rfl | fail))
    intro d hd
    by_cases hd2 : d < 1024
    · have q := hat d
      have hno := hno d hd2
      have hyes := fun v => hyes d v hd2
      obtain ⟨⟨v, o⟩, hx⟩ : ∃ x, x = atF l k d kn := ⟨_, rfl⟩
      rw [← hx] at q hno hyes
      have hcb1 := hcb d
      by_cases hc : o = true ∧ lo ≤ (d : Int) ∧ (d : Int) < hi
      · obtain ⟨rfl, hc2, hc3⟩ := hc
        obtain ⟨y1, y2⟩ := hyes v rfl hc2 hc3
        have y3 : cnt d < p.length := by
          have := (List.getElem?_eq_some_iff.1 y1).1
          exact this
        have y4 : p[cnt d] = ((d : Int), v) := (List.getElem?_eq_some_iff.1 y1).2
        have y5 : (p[cnt d]).1 = d := by rw [y4]
        have y6 : (p[cnt d]).2 = v := by rw [y4]
        refine code_sound (more := more8 false _ _) more8_ok FOK.wide _ ?_
        repeat' ((try conv => whnf); first | (first | refine k3 (fun hb => ?_) fun hb => ?_ | refine k4 (fun hb => ?_) fun hb => ?_) <;> (try rw [List.length_map] at hb) <;> (try (exfalso; omega; done)) | fail)
        refine .inl ⟨_, q, ?_⟩
        repeat' ((try conv => whnf); first | (first | refine k3 (fun hb => ?_) fun hb => ?_ | refine k4 (fun hb => ?_) fun hb => ?_) <;> (try rw [List.length_map] at hb) <;> (try (exfalso; omega; done)) | refine s4 nm ?_ | refine s5 nm nm ?_ | fail)
        refine ⟨d + 1, Le.of ?_ (by (repeat' (first | exact trivial | refine And.intro ?_ ?_ | refine Exists.intro _ (And.intro rfl ?_) | exact Or.inl rfl | fail))) rfl rfl rfl, by omega, by omega⟩
        rw [y2]
        (repeat' (first | exact trivial | refine And.intro ?_ ?_ | exact Or.inl rfl | fail))
      · have hcn := hno (by
          by_cases ho : o = true
          · by_cases h2 : lo ≤ (d : Int)
            · exact .inr (.inr (Int.not_lt.1 fun h => hc ⟨ho, h2, h⟩))
            · exact .inr (.inl (by omega))
          · exact .inl (by simpa using ho))
        have hc' : o = true → lo ≤ (d : Int) → ¬ (d : Int) < hi := fun h1 h2 h3 => hc ⟨h1, h2, h3⟩
        refine code_sound (more := more8 false _ _) more8_ok FOK.wide _ ?_
        repeat' ((try conv => whnf); first | (first | refine k3 (fun hb => ?_) fun hb => ?_ | refine k4 (fun hb => ?_) fun hb => ?_) <;> (try rw [List.length_map] at hb) <;> (try (exfalso; omega; done)) | fail)
        refine .inl ⟨_, q, ?_⟩
        repeat' ((try conv => whnf); first | (first | refine k3 (fun hb => ?_) fun hb => ?_ | refine k4 (fun hb => ?_) fun hb => ?_) <;> (try rw [List.length_map] at hb) <;> (try (exfalso; omega; done)) | refine k5 (fun hb => ?_) fun hb => ?_ | refine s4 nm ?_ | refine s5 nm nm ?_ | fail)
        all_goals first
          | (refine ⟨d + 1, Le.of ?_ (by (repeat' (first | exact trivial | refine And.intro ?_ ?_ | refine Exists.intro _ (And.intro rfl ?_) | exact Or.inl rfl | fail))) rfl rfl rfl, by omega, by omega⟩; rw [hcn]; (repeat' (first | exact trivial | refine And.intro ?_ ?_ | exact Or.inl rfl | fail)); done)
          | (exfalso; exact hc' (by assumption) (by omega) (by omega))
    · have ed : d = 1024 := by omega
      subst ed
      refine code_sound (more := more8 false _ _) more8_ok FOK.wide _ ?_
      skip
      exact PSub.of_eq (congrArg (fun b => PV.val (.bool b)) (decide_eq_true (by rw [hend]; omega)))
end Go.Proofs.Ytinhhmnnfbeimaa
