/- Facts: what is known about a key on a day. Conditions: none. -/
import Derived.Test.YtinhhmnnfbeimaaWd
import Derived.Test.YtinhhmnnfbeimaaWg
import Derived.Test.YtinhhmnnfbeimaaWf
import Derived.KernelRfl
set_option linter.unusedSimpArgs false
set_option linter.unusedVariables false
namespace Go.Proofs.Ytinhhmnnfbeimaa
open Go.Avc
def abt (k : Ky) (kn : Int) (f : Fa) : Bool := decide (f.key = k) && decide (f.known ≤ kn)
def abtF (l : List Fa) (k : Ky) (kn : Int) : List Fa := l.filter (abt k kn)
def facRows (l : List Fa) : List (List PV) := l.map fun f => [.agg (encFa f)]
theorem abt_take {l : List Fa} {k : Ky} {kn : Int} {i : Nat} (h : i < l.length) : abtF (l.take (i + 1)) k kn = if abt k kn l[i] then abtF (l.take i) k kn ++ [l[i]] else abtF (l.take i) k kn := by
  unfold abtF
  rw [List.take_succ_eq_append_getElem h, List.filter_append]
  by_cases e : abt k kn l[i] = true <;> simp [e]
theorem abt_at {l : List Fa} {k : Ky} {kn : Int} {i : Nat} (h : i < l.length) (hp : abt k kn l[i] = true) : (facRows (abtF l k kn))[(abtF (l.take i) k kn).length]? = some [.agg (encFa l[i])] := by
  have e : abtF l k kn = abtF (l.take i) k kn ++ (l[i] :: abtF (l.drop (i + 1)) k kn) := by
    have e0 : l = l.take i ++ l[i] :: l.drop (i + 1) := by rw [← List.drop_eq_getElem_cons h, List.take_append_drop]
    unfold abtF
    have e2 : ([l[i]].filter (abt k kn)) = [l[i]] := by simp [hp]
    calc l.filter (abt k kn) = (l.take i ++ l[i] :: l.drop (i + 1)).filter (abt k kn) := congrArg _ e0
      _ = _ := by rw [List.filter_append, show l[i] :: l.drop (i + 1) = [l[i]] ++ l.drop (i + 1) from rfl, List.filter_append, e2]; rfl
  rw [e]
  simp [facRows]
/-- This fact counts beside the one that counted. -/
def newer (b : Option Fa) (f : Fa) : Bool := match b with
  | none => true
  | some x => !decide (f.bef x)
/-- One more fact is looked at. -/
def pickF (day : Int) (b : Option Fa) (f : Fa) : Option Fa := if f.lo ≤ day ∧ day < f.hi ∧ newer b f = true then some f else b
theorem pickF_no {day : Int} {b : Option Fa} {f : Fa} (h : ¬ (f.lo ≤ day ∧ day < f.hi)) : pickF day b f = b := by
  unfold pickF; rw [if_neg fun h' => h ⟨h'.1, h'.2.1⟩]
theorem pickF_none {day : Int} {f : Fa} (h : f.lo ≤ day ∧ day < f.hi) : pickF day none f = some f := by
  unfold pickF; rw [if_pos ⟨h.1, h.2, rfl⟩]
theorem pickF_yes {day : Int} {x f : Fa} (h : f.lo ≤ day ∧ day < f.hi) (hb : ¬ f.bef x) : pickF day (some x) f = some f := by
  unfold pickF; rw [if_pos ⟨h.1, h.2, by simp [newer, hb]⟩]
theorem pickF_keep {day : Int} {x f : Fa} (hb : f.bef x) : pickF day (some x) f = some x := by
  unfold pickF; rw [if_neg fun h' => by simp [newer, hb] at h']
def bestF (l : List Fa) (k : Ky) (day kn : Int) : Option Fa := (abtF l k kn).foldl (pickF day) none
def valF (b : Option Fa) : Int × Bool := match b with
  | some f => if f.value < 0 then (0, false) else (f.value, true)
  | none => (0, false)
def atF (l : List Fa) (k : Ky) (day kn : Int) : Int × Bool := valF (bestF l k day kn)
def encIB (x : Int × Bool) : PV := .tup [.int x.1, .bool x.2]
def zeroFa : Fa := ⟨⟨0, 0, 0⟩, 0, 0, 0, 0, 0⟩
set_option maxRecDepth 20000
set_option maxHeartbeats 4000000
set_option linter.unusedSimpArgs false
attribute [local irreducible] PSub Wp PSpec Le Need Both
attribute [local irreducible] Fa.bef
theorem about_spec (l : List Fa) (k : Ky) (kn : Int) : PSpec Try.prog 36 [encFs l, .agg (encKy k), .int kn] (.fn 47 [.ptr [encFs l], .ptr (encKy k), .ptr [.int kn]]) := by
  refine PSpec.of_vc (fun Γ => more8 false Γ.P Γ.fx) (fun Γ => more8_ok) Try.func36 rfl Try.call36 (by simp) ?_
  rintro ⟨P, N, w0, X, β0, fx, y, hy, pk, df⟩ rfl rfl rfl hoff rfl; change y.on = false at hoff
  skip
  exact PSub.refl _
theorem about1_spec (l : List Fa) (k : Ky) (kn : Int) (hl : l.length ≤ 1000000) : ISpec Try.prog 47 [.ptr [encFs l], .ptr (encKy k), .ptr [.int kn]] (facRows (abtF l k kn)) := by
  refine ISpec.of_vc (fun Γ => more8 false Γ.P Γ.fx) (fun Γ => more8_ok) Try.func47 rfl Try.call47 (Nat.le_of_ble_eq_true rfl) rfl ?_
  rintro ⟨P, N, w0, X, β0, fx, y, hy, pk, df⟩ rfl rfl rfl rfl hon hxs
  dsimp only at hon hxs
  skip
  refine Wp.loop (fun i : Nat => ⟨[(0, .pure (.val (.func (.yield y.l) #[] #[]))), (2, .pure (.ptr (encKy k))), (3, .pure (.ptr [.int kn])), (7, .pure (encFs l)), (8, .int l.length), (9, .int i), (30, .gh (abtF (l.take i) k kn).length false)], [], []⟩) (fun i => i ≤ l.length) (fun i => l.length - i) 0 (Le.of ?_ ?_ rfl rfl rfl) (by omega) ?_
  · (repeat' (first | exact trivial | refine And.intro ?_ ?_ | exact Or.inl rfl | exact l1 bd | fail))
  · (repeat' (first | exact trivial | fail))
  intro i hi
  by_cases hi2 : i < l.length
  · have ht := abt_take (k := k) (kn := kn) hi2
    have q := kyEq l[i].key k
    by_cases hp : abt k kn l[i] = true
    · rw [if_pos hp] at ht
      have hrow := abt_at hi2 hp
      have hp' := hp
      unfold abt at hp'
      rw [Bool.and_eq_true, decide_eq_true_eq, decide_eq_true_eq] at hp'
      rw [decide_eq_true hp'.1] at q
      have hkn := hp'.2
      refine code_sound (more := more8 false _ _) more8_ok FOK.wide _ ?_
      repeat' ((try conv => whnf); first | (first | refine k3 (fun hb => ?_) fun hb => ?_ | refine k4 (fun hb => ?_) fun hb => ?_) <;> (try rw [List.length_map] at hb) <;> (try (exfalso; omega; done)) | refine And.intro rfl ?_ | refine s5 nm nm ?_ | fail)
      refine ⟨_, q, by first | exact isAg | exact isAp, by first | exact isAg | exact isAp, ?_⟩
      repeat' ((try conv => whnf); first | (first | refine k3 (fun hb => ?_) fun hb => ?_ | refine k4 (fun hb => ?_) fun hb => ?_) <;> (try rw [List.length_map] at hb) <;> (try (exfalso; omega; done)) | refine And.intro rfl ?_ | refine And.intro bd ?_ | fail)
      refine needY (i := (abtF (l.take i) k kn).length) hxs hrow ⟨PSub.refl _, trivial⟩ ?_
      repeat' ((try conv => whnf); first | refine Both.intro ?_ ?_ | refine s4 nm ?_ | fail)
      · refine ⟨i + 1, Le.of ?_ (by (repeat' (first | exact trivial | fail))) rfl rfl rfl, by omega, by omega⟩
        rw [ht, List.length_append]
        (repeat' (first | exact trivial | refine And.intro ?_ ?_ | exact Or.inl rfl | fail))
      · exact ⟨(abtF (l.take i) k kn).length + 1, true, rfl, by simp⟩
    · rw [if_neg hp] at ht
      have hp' := hp
      unfold abt at hp'
      by_cases hk : l[i].key = k
      · rw [decide_eq_true hk] at q
        rw [decide_eq_true hk, Bool.true_and, decide_eq_true_eq] at hp'
        refine code_sound (more := more8 false _ _) more8_ok FOK.wide _ ?_
        repeat' ((try conv => whnf); first | (first | refine k3 (fun hb => ?_) fun hb => ?_ | refine k4 (fun hb => ?_) fun hb => ?_) <;> (try rw [List.length_map] at hb) <;> (try (exfalso; omega; done)) | refine And.intro rfl ?_ | refine s5 nm nm ?_ | fail)
        refine ⟨_, q, by first | exact isAg | exact isAp, by first | exact isAg | exact isAp, ?_⟩
        repeat' ((try conv => whnf); first | (first | refine k3 (fun hb => ?_) fun hb => ?_ | refine k4 (fun hb => ?_) fun hb => ?_) <;> (try rw [List.length_map] at hb) <;> (try (exfalso; omega; done)) | refine s4 nm ?_ | fail)
        refine ⟨i + 1, Le.of ?_ (by (repeat' (first | exact trivial | fail))) rfl rfl rfl, by omega, by omega⟩
        rw [ht]
        (repeat' (first | exact trivial | refine And.intro ?_ ?_ | exact Or.inl rfl | fail))
      · rw [decide_eq_false hk] at q
        refine code_sound (more := more8 false _ _) more8_ok FOK.wide _ ?_
        repeat' ((try conv => whnf); first | (first | refine k3 (fun hb => ?_) fun hb => ?_ | refine k4 (fun hb => ?_) fun hb => ?_) <;> (try rw [List.length_map] at hb) <;> (try (exfalso; omega; done)) | refine And.intro rfl ?_ | refine s5 nm nm ?_ | fail)
        refine ⟨_, q, by first | exact isAg | exact isAp, by first | exact isAg | exact isAp, ?_⟩
        repeat' ((try conv => whnf); first | refine s4 nm ?_ | fail)
        refine ⟨i + 1, Le.of ?_ (by (repeat' (first | exact trivial | fail))) rfl rfl rfl, by omega, by omega⟩
        rw [ht]
        (repeat' (first | exact trivial | refine And.intro ?_ ?_ | exact Or.inl rfl | fail))
  · refine code_sound (more := more8 false _ _) more8_ok FOK.wide _ ?_
    repeat' ((try conv => whnf); first | (first | refine k3 (fun hb => ?_) fun hb => ?_ | refine k4 (fun hb => ?_) fun hb => ?_) <;> (try rw [List.length_map] at hb) <;> (try (exfalso; omega; done)) | fail)
    exact ⟨(abtF (l.take i) k kn).length, false, rfl, fun _ => by simp [facRows, show i = l.length by omega]⟩
theorem pick_cases (day : Int) (b : Option Fa) (f : Fa) : (¬ (f.lo ≤ day ∧ day < f.hi) ∧ pickF day b f = b) ∨ (f.lo ≤ day ∧ day < f.hi) ∧ ((b = none ∧ pickF day b f = some f) ∨ (∃ x, b = some x ∧ ¬ f.bef x ∧ pickF day b f = some f) ∨ (∃ x, b = some x ∧ f.bef x ∧ pickF day b f = b)) := by
  by_cases h : f.lo ≤ day ∧ day < f.hi
  · refine .inr ⟨h, ?_⟩
    cases b with
    | none => exact .inl ⟨rfl, pickF_none h⟩
    | some x =>
      by_cases hb : f.bef x
      · exact .inr (.inr ⟨x, rfl, hb, pickF_keep hb⟩)
      · exact .inr (.inl ⟨x, rfl, hb, pickF_yes h hb⟩)
  · exact .inl ⟨h, pickF_no h⟩
theorem at_spec (L : List Fa) (κ : Ky) (day kn : Int) (hl : L.length ≤ 1000000) : PSpec Try.prog 18 [encFs L, .agg (encKy κ), .int day, .int kn] (encIB (atF L κ day kn)) := by
  have hI := about1_spec L κ kn hl
  obtain ⟨xs, hxs⟩ : ∃ xs, xs = abtF L κ kn := ⟨_, rfl⟩
  have hlen : (facRows xs).length = xs.length := by simp [facRows]
  have hat : atF L κ day kn = valF (xs.foldl (pickF day) none) := by rw [atF, bestF, hxs]
  rw [← hxs] at hI
  rw [hat]
  refine PSpec.of_vc (fun Γ => more8 false Γ.P Γ.fx) (fun Γ => more8_ok) Try.func18 rfl Try.call18 (by simp) ?_
  rintro ⟨P, N, w0, X, β0, fx, y, hy, pk, df⟩ rfl rfl rfl hoff rfl; change y.on = false at hoff
  repeat' ((try conv => whnf); first | refine And.intro rfl ?_ | fail)
  refine .inl ⟨_, about_spec L κ kn, ?_⟩
  repeat' ((try conv => whnf); first | refine And.intro rfl ?_ | fail)
  refine Wp.rangeFunc hI [(5, .loc 5 0 0), (6, .loc 6 0 0), (10, .loc 10 0 0), (11, .loc 11 0 0), (8, .int 0), (9, .bool false), (16, .pure (.fn 47 [.ptr [encFs L], .ptr (encKy κ), .ptr [.int kn]]))]
    (fun i => [(5, some (.box (pures (encKy κ)))), (6, some (.box [.int day])), (10, some (.box (pures (encFa (((xs.take i).foldl (pickF day) none).getD zeroFa))))), (11, some (.box [.bool (((xs.take i).foldl (pickF day) none).isSome)]))]) (fun _ => [5, 6, 10, 11]) [5, 6, 10, 11]
    (fun _ => True)
    (Le.of ?_ ?_ rfl rfl rfl) rfl hoff trivial rfl rfl (fun _ => rfl) rfl (fun i row hrow => ?_) ?_ ?_
  · (repeat' (first | exact trivial | refine And.intro ?_ ?_ | exact Or.inl rfl | fail))
  · (repeat' (first | exact trivial | refine And.intro ?_ ?_ | refine Exists.intro _ (And.intro rfl ?_) | exact Or.inl rfl | fail))
  · simp only [facRows, List.getElem?_map, Option.map_eq_some_iff] at hrow
    obtain ⟨w, _, rfl⟩ := hrow
    rfl
  · rintro ⟨P1, N1, w1, X1, β1, fx1, y1, hy1, pk1, df1⟩ rfl rfl rfl hoff1 rfl l k row hrow hok; change y1.on = false at hoff1
    have hk : k < xs.length := by have := (List.getElem?_eq_some_iff.1 hrow).1; simpa [facRows] using this
    rw [facRows, List.getElem?_map, List.getElem?_eq_getElem hk] at hrow
    cases hrow
    have hstep : ((xs.take (k + 1)).foldl (pickF day) none) = pickF day ((xs.take k).foldl (pickF day) none) xs[k] := by
      rw [List.take_succ_eq_append_getElem hk, List.foldl_append]; rfl
    obtain ⟨b, hb⟩ : ∃ b, b = (xs.take k).foldl (pickF day) none := ⟨_, rfl⟩
    obtain ⟨f, hf⟩ : ∃ f, f = xs[k] := ⟨_, rfl⟩
    rw [← hb, ← hf] at hstep
    rw [← hb, ← hf]
    have hpick := pick_cases day b f
    rcases hpick with ⟨hno, he⟩ | ⟨hin, ⟨rfl, he⟩ | ⟨x, rfl, hx, he⟩ | ⟨x, rfl, hx, he⟩⟩
    · rw [he] at hstep
      refine code_sound (more := more8 false _ _) more8_ok (FOK.inRound _) _ ?_
      repeat' ((try conv => whnf); first | refine And.intro rfl ?_ | fail)
      rintro ⟨P2, N2, w2, X2, β2, fx2, y2, hy2, pk2, df2⟩ rfl rfl rfl hoff2 rfl; change y2.on = false at hoff2
      refine code_sound (more := more8 false _ _) more8_ok (FOK.inRound _) _ ?_
      repeat' ((try conv => whnf); first | (first | refine k3 (fun hb => ?_) fun hb => ?_ | refine k4 (fun hb => ?_) fun hb => ?_) <;> (try rw [List.length_map] at hb) <;> (try (exfalso; omega; done)) | refine Both.intro ?_ ?_ | fail)
      all_goals first | exact trivial | (simp only [hstep]; exact Le.of trivial (by (repeat' (first | exact trivial | refine And.intro ?_ ?_ | refine Exists.intro _ (And.intro rfl ?_) | exact Or.inl rfl | fail))) rfl rfl rfl)
    · rw [he] at hstep
      refine code_sound (more := more8 false _ _) more8_ok (FOK.inRound _) _ ?_
      repeat' ((try conv => whnf); first | refine And.intro rfl ?_ | fail)
      rintro ⟨P2, N2, w2, X2, β2, fx2, y2, hy2, pk2, df2⟩ rfl rfl rfl hoff2 rfl; change y2.on = false at hoff2
      refine code_sound (more := more8 false _ _) more8_ok (FOK.inRound _) _ ?_
      repeat' ((try conv => whnf); first | (first | refine k3 (fun hb => ?_) fun hb => ?_ | refine k4 (fun hb => ?_) fun hb => ?_) <;> (try rw [List.length_map] at hb) <;> (try (exfalso; omega; done)) | refine Both.intro ?_ ?_ | refine And.intro rfl ?_ | fail)
      all_goals first | exact trivial | (simp only [hstep]; exact Le.of trivial (by (repeat' (first | exact trivial | refine And.intro ?_ ?_ | refine Exists.intro _ (And.intro rfl ?_) | exact Or.inl rfl | fail))) rfl rfl rfl)
    · rw [he] at hstep
      have q := order_spec x f
      have hle := cmpF_le x f
      obtain ⟨c, hc⟩ : ∃ c, c = cmpF x f := ⟨_, rfl⟩
      rw [← hc] at q hle
      have hc0 : c ≤ 0 := hle.2 hx
      refine code_sound (more := more8 false _ _) more8_ok (FOK.inRound _) _ ?_
      repeat' ((try conv => whnf); first | refine And.intro rfl ?_ | fail)
      rintro ⟨P2, N2, w2, X2, β2, fx2, y2, hy2, pk2, df2⟩ rfl rfl rfl hoff2 rfl; change y2.on = false at hoff2
      refine code_sound (more := more8 false _ _) more8_ok (FOK.inRound _) _ ?_
      repeat' ((try conv => whnf); first | (first | refine k3 (fun hb => ?_) fun hb => ?_ | refine k4 (fun hb => ?_) fun hb => ?_) <;> (try rw [List.length_map] at hb) <;> (try (exfalso; omega; done)) | fail)
      refine .inl ⟨_, q, ?_⟩
      repeat' ((try conv => whnf); first | (first | refine k3 (fun hb => ?_) fun hb => ?_ | refine k4 (fun hb => ?_) fun hb => ?_) <;> (try rw [List.length_map] at hb) <;> (try (exfalso; omega; done)) | refine Both.intro ?_ ?_ | refine And.intro rfl ?_ | fail)
      all_goals first | exact trivial | (simp only [hstep]; exact Le.of trivial (by (repeat' (first | exact trivial | refine And.intro ?_ ?_ | refine Exists.intro _ (And.intro rfl ?_) | exact Or.inl rfl | fail))) rfl rfl rfl)
    · rw [he] at hstep
      have q := order_spec x f
      have hle := cmpF_le x f
      obtain ⟨c, hc⟩ : ∃ c, c = cmpF x f := ⟨_, rfl⟩
      rw [← hc] at q hle
      have hc0 : ¬ c ≤ 0 := fun h => hle.1 h hx
      refine code_sound (more := more8 false _ _) more8_ok (FOK.inRound _) _ ?_
      repeat' ((try conv => whnf); first | refine And.intro rfl ?_ | fail)
      rintro ⟨P2, N2, w2, X2, β2, fx2, y2, hy2, pk2, df2⟩ rfl rfl rfl hoff2 rfl; change y2.on = false at hoff2
      refine code_sound (more := more8 false _ _) more8_ok (FOK.inRound _) _ ?_
      repeat' ((try conv => whnf); first | (first | refine k3 (fun hb => ?_) fun hb => ?_ | refine k4 (fun hb => ?_) fun hb => ?_) <;> (try rw [List.length_map] at hb) <;> (try (exfalso; omega; done)) | fail)
      refine .inl ⟨_, q, ?_⟩
      repeat' ((try conv => whnf); first | (first | refine k3 (fun hb => ?_) fun hb => ?_ | refine k4 (fun hb => ?_) fun hb => ?_) <;> (try rw [List.length_map] at hb) <;> (try (exfalso; omega; done)) | refine Both.intro ?_ ?_ | fail)
      all_goals first | exact trivial | (simp only [hstep]; exact Le.of trivial (by (repeat' (first | exact trivial | refine And.intro ?_ ?_ | refine Exists.intro _ (And.intro rfl ?_) | exact Or.inl rfl | fail))) rfl rfl rfl)
  · intro _
    rw [hlen, List.take_of_length_le (Nat.le_refl _)]
    obtain ⟨b, hb⟩ : ∃ b, b = xs.foldl (pickF day) none := ⟨_, rfl⟩
    rw [← hb]
    cases b with
    | none =>
      skip
      exact PSub.refl _
    | some f =>
      have e1 : ((some f).getD zeroFa).value < 0 → valF (some f) = (0, false) := fun h => by unfold valF; exact if_pos h
      have e2 : ¬ ((some f).getD zeroFa).value < 0 → valF (some f) = (f.value, true) := fun h => by unfold valF; exact if_neg h
      obtain ⟨r, hr⟩ : ∃ r, r = valF (some f) := ⟨_, rfl⟩
      rw [← hr] at e1 e2 ⊢
      repeat' ((try conv => whnf); first | (first | refine k3 (fun hb => ?_) fun hb => ?_ | refine k4 (fun hb => ?_) fun hb => ?_) <;> (try rw [List.length_map] at hb) <;> (try (exfalso; omega; done)) | fail)
      all_goals first | (rw [e1 (by assumption)]; exact PSub.refl _) | (rw [e2 (by assumption)]; exact PSub.refl _)
/-- The index of the fact that counts, among the first i. -/
def IdxF (l : List Fa) (k : Ky) (day kn : Int) (i : Nat) (r : Int) : Prop := (r = -1 ∧ bestF (l.take i) k day kn = none) ∨ ∃ n : Nat, r = n ∧ ∃ h : n < l.length, n < i ∧ bestF (l.take i) k day kn = some l[n]
theorem best_step {l : List Fa} {k : Ky} {day kn : Int} {i : Nat} (h : i < l.length) : bestF (l.take (i + 1)) k day kn = if abt k kn l[i] then pickF day (bestF (l.take i) k day kn) l[i] else bestF (l.take i) k day kn := by
  unfold bestF
  rw [abt_take h]
  split
  · rw [List.foldl_append]; rfl
  · rfl
theorem IdxF.skip {l : List Fa} {k : Ky} {day kn : Int} {i : Nat} {r : Int} (h : IdxF l k day kn i r) (hi : i < l.length) (he : bestF (l.take (i + 1)) k day kn = bestF (l.take i) k day kn) : IdxF l k day kn (i + 1) r := by
  rcases h with ⟨h1, h2⟩ | ⟨n, h1, h2, h3, h4⟩
  · exact .inl ⟨h1, he.trans h2⟩
  · exact .inr ⟨n, h1, h2, by omega, he.trans h4⟩
theorem IdxF.take {l : List Fa} {k : Ky} {day kn : Int} {i : Nat} (hi : i < l.length) (he : bestF (l.take (i + 1)) k day kn = some l[i]) : IdxF l k day kn (i + 1) i := .inr ⟨i, rfl, hi, by omega, he⟩
theorem rat_spec (l : List Fa) (k : Ky) (day kn : Int) (hl : l.length ≤ 1000000) : PSpec Try.prog 19 [encFs l, .agg (encKy k), .int day, .int kn] (encIB (atF l k day kn)) := by
  refine PSpec.of_vc (fun Γ => more8 false Γ.P Γ.fx) (fun Γ => more8_ok) Try.func19 rfl Try.call19 (by simp) ?_
  rintro ⟨P, N, w0, X, β0, fx, y, hy, pk, df⟩ rfl rfl rfl hoff rfl; change y.on = false at hoff
  skip
  refine Wp.loop (fun x : Nat × Int => ⟨[(0, .pure (encFs l)), (2, .int day), (3, .int kn), (5, .loc 5 0 0), (10, .int x.2), (11, .int x.1)], [(5, some (.box (pures (encKy k))))], [5]⟩) (fun x => x.1 ≤ l.length ∧ IdxF l k day kn x.1 x.2) (fun x => l.length - x.1) (0, -1) (Le.of ?_ ?_ rfl rfl rfl) ⟨Nat.zero_le _, .inl ⟨rfl, by simp [bestF, abtF]⟩⟩ ?_
  · (repeat' (first | exact trivial | refine And.intro ?_ ?_ | exact Or.inl rfl | fail))
  · (repeat' (first | exact trivial | refine And.intro ?_ ?_ | refine Exists.intro _ (And.intro rfl ?_) | exact Or.inl rfl | fail))
  rintro ⟨i, r⟩ ⟨hi, hr⟩
  dsimp only at hi hr ⊢
  by_cases hi2 : i < l.length
  · have hst := best_step (k := k) (day := day) (kn := kn) hi2
    have q := kyEq l[i].key k
    by_cases hk : l[i].key = k
    · rw [decide_eq_true hk] at q
      by_cases hc : l[i].lo ≤ day ∧ day < l[i].hi ∧ l[i].known ≤ kn
      · have ha : abt k kn l[i] = true := by unfold abt; rw [decide_eq_true hk, decide_eq_true hc.2.2]; rfl
        rw [if_pos ha] at hst
        obtain ⟨hc1, hc2, hc3⟩ := hc
        rcases hr with ⟨rfl, h2⟩ | ⟨n, rfl, h2, h3, h4⟩
        · rw [h2, pickF_none ⟨hc1, hc2⟩] at hst
          have hnew := IdxF.take hi2 hst
          refine code_sound (more := more8 false _ _) more8_ok FOK.wide _ ?_
          repeat' ((try conv => whnf); first | (first | refine k3 (fun hb => ?_) fun hb => ?_ | refine k4 (fun hb => ?_) fun hb => ?_) <;> (try rw [List.length_map] at hb) <;> (try (exfalso; omega; done)) | refine And.intro rfl ?_ | refine s5 nm nm ?_ | fail)
          refine Wp.draw (more := more8 true _ _) more8_det more8_ok FOK.wide rfl (by decide +kernel) (by conv => lhs; reduce) ?_
          skip
          refine ⟨_, q, by first | exact isAg | exact isAp, by first | exact isAg | exact isAp, ?_⟩
          repeat' ((try conv => whnf); first | (first | refine k3 (fun hb => ?_) fun hb => ?_ | refine k4 (fun hb => ?_) fun hb => ?_) <;> (try rw [List.length_map] at hb) <;> (try (exfalso; omega; done)) | refine s4 nm ?_ | fail)
          exact ⟨(i + 1, (i : Int)), Le.of (by (repeat' (first | exact trivial | refine And.intro ?_ ?_ | exact Or.inl rfl | fail))) (by (repeat' (first | exact trivial | refine And.intro ?_ ?_ | refine Exists.intro _ (And.intro rfl ?_) | exact Or.inl rfl | fail))) rfl rfl rfl, ⟨hi2, hnew⟩, by simp only; omega⟩
        · have q2 := before_spec l[i] l[n]
          have g2 := getF h2
          have e0 : ((n : Int)).toNat = n := by omega
          by_cases hb : l[i].bef l[n]
          · rw [h4, pickF_keep hb, ← h4] at hst
            have hnew := IdxF.skip (.inr ⟨n, rfl, h2, h3, h4⟩) hi2 hst
            rw [decide_eq_true hb] at q2
            refine code_sound (more := more8 false _ _) more8_ok FOK.wide _ ?_
            repeat' ((try conv => whnf); first | (first | refine k3 (fun hb => ?_) fun hb => ?_ | refine k4 (fun hb => ?_) fun hb => ?_) <;> (try rw [List.length_map] at hb) <;> (try (exfalso; omega; done)) | refine And.intro rfl ?_ | refine s5 nm nm ?_ | fail)
            refine Wp.draw (more := more8 true _ _) more8_det more8_ok FOK.wide rfl (by decide +kernel) (by conv => lhs; reduce) ?_
            skip
            refine ⟨_, q, by first | exact isAg | exact isAp, by first | exact isAg | exact isAp, ?_⟩
            repeat' ((try conv => whnf); first | (first | refine k3 (fun hb => ?_) fun hb => ?_ | refine k4 (fun hb => ?_) fun hb => ?_) <;> (try rw [List.length_map] at hb) <;> (try (exfalso; omega; done)) | refine s5 nm nm ?_ | fail)
            refine ⟨_, q2, ?_⟩
            repeat' ((try conv => whnf); first | refine s4 nm ?_ | fail)
            exact ⟨(i + 1, (n : Int)), Le.of (by (repeat' (first | exact trivial | refine And.intro ?_ ?_ | exact Or.inl rfl | fail))) (by (repeat' (first | exact trivial | refine And.intro ?_ ?_ | refine Exists.intro _ (And.intro rfl ?_) | exact Or.inl rfl | fail))) rfl rfl rfl, ⟨hi2, hnew⟩, by simp only; omega⟩
          · rw [h4, pickF_yes ⟨hc1, hc2⟩ hb] at hst
            have hnew := IdxF.take hi2 hst
            rw [decide_eq_false hb] at q2
            refine code_sound (more := more8 false _ _) more8_ok FOK.wide _ ?_
            repeat' ((try conv => whnf); first | (first | refine k3 (fun hb => ?_) fun hb => ?_ | refine k4 (fun hb => ?_) fun hb => ?_) <;> (try rw [List.length_map] at hb) <;> (try (exfalso; omega; done)) | refine And.intro rfl ?_ | refine s5 nm nm ?_ | fail)
            refine Wp.draw (more := more8 true _ _) more8_det more8_ok FOK.wide rfl (by decide +kernel) (by conv => lhs; reduce) ?_
            skip
            refine ⟨_, q, by first | exact isAg | exact isAp, by first | exact isAg | exact isAp, ?_⟩
            repeat' ((try conv => whnf); first | (first | refine k3 (fun hb => ?_) fun hb => ?_ | refine k4 (fun hb => ?_) fun hb => ?_) <;> (try rw [List.length_map] at hb) <;> (try (exfalso; omega; done)) | refine s5 nm nm ?_ | fail)
            refine ⟨_, q2, ?_⟩
            repeat' ((try conv => whnf); first | refine s4 nm ?_ | fail)
            exact ⟨(i + 1, (i : Int)), Le.of (by (repeat' (first | exact trivial | refine And.intro ?_ ?_ | exact Or.inl rfl | fail))) (by (repeat' (first | exact trivial | refine And.intro ?_ ?_ | refine Exists.intro _ (And.intro rfl ?_) | exact Or.inl rfl | fail))) rfl rfl rfl, ⟨hi2, hnew⟩, by simp only; omega⟩
      · have hnew : IdxF l k day kn (i + 1) r := hr.skip hi2 (by
          rw [hst]
          split
          · rename_i ha
            unfold abt at ha
            rw [Bool.and_eq_true, decide_eq_true_eq, decide_eq_true_eq] at ha
            exact pickF_no fun h => hc ⟨h.1, h.2, ha.2⟩
          · rfl)
        refine code_sound (more := more8 false _ _) more8_ok FOK.wide _ ?_
        repeat' ((try conv => whnf); first | (first | refine k3 (fun hb => ?_) fun hb => ?_ | refine k4 (fun hb => ?_) fun hb => ?_) <;> (try rw [List.length_map] at hb) <;> (try (exfalso; omega; done)) | refine And.intro rfl ?_ | refine s5 nm nm ?_ | fail)
        refine Wp.draw (more := more8 true _ _) more8_det more8_ok FOK.wide rfl (by decide +kernel) (by conv => lhs; reduce) ?_
        skip
        refine ⟨_, q, by first | exact isAg | exact isAp, by first | exact isAg | exact isAp, ?_⟩
        repeat' ((try conv => whnf); first | (first | refine k3 (fun hb => ?_) fun hb => ?_ | refine k4 (fun hb => ?_) fun hb => ?_) <;> (try rw [List.length_map] at hb) <;> (try (exfalso; omega; done)) | refine s4 nm ?_ | fail)
        all_goals exact ⟨(i + 1, r), Le.of (by (repeat' (first | exact trivial | refine And.intro ?_ ?_ | exact Or.inl rfl | fail))) (by (repeat' (first | exact trivial | refine And.intro ?_ ?_ | refine Exists.intro _ (And.intro rfl ?_) | exact Or.inl rfl | fail))) rfl rfl rfl, ⟨hi2, hnew⟩, by simp only; omega⟩
    · have hnew : IdxF l k day kn (i + 1) r := hr.skip hi2 (by rw [hst, if_neg]; unfold abt; rw [decide_eq_false hk]; simp)
      rw [decide_eq_false hk] at q
      refine code_sound (more := more8 false _ _) more8_ok FOK.wide _ ?_
      repeat' ((try conv => whnf); first | (first | refine k3 (fun hb => ?_) fun hb => ?_ | refine k4 (fun hb => ?_) fun hb => ?_) <;> (try rw [List.length_map] at hb) <;> (try (exfalso; omega; done)) | refine And.intro rfl ?_ | refine s5 nm nm ?_ | fail)
      refine Wp.draw (more := more8 true _ _) more8_det more8_ok FOK.wide rfl (by decide +kernel) (by conv => lhs; reduce) ?_
      skip
      refine ⟨_, q, by first | exact isAg | exact isAp, by first | exact isAg | exact isAp, ?_⟩
      repeat' ((try conv => whnf); first | refine s4 nm ?_ | fail)
      exact ⟨(i + 1, r), Le.of (by (repeat' (first | exact trivial | refine And.intro ?_ ?_ | exact Or.inl rfl | fail))) (by (repeat' (first | exact trivial | refine And.intro ?_ ?_ | refine Exists.intro _ (And.intro rfl ?_) | exact Or.inl rfl | fail))) rfl rfl rfl, ⟨hi2, hnew⟩, by simp only; omega⟩
  · have e : i = l.length := by omega
    subst e
    rcases hr with ⟨rfl, h2⟩ | ⟨n, rfl, h2, h3, h4⟩
    · rw [List.take_of_length_le (Nat.le_refl _)] at h2
      rw [atF, h2]
      refine code_sound (more := more8 false _ _) more8_ok FOK.wide _ ?_
      repeat' ((try conv => whnf); first | (first | refine k3 (fun hb => ?_) fun hb => ?_ | refine k4 (fun hb => ?_) fun hb => ?_) <;> (try rw [List.length_map] at hb) <;> (try (exfalso; omega; done)) | fail)
      exact PSub.refl _
    · rw [List.take_of_length_le (Nat.le_refl _)] at h4
      rw [atF, h4]
      have g2 := getF h2
      have e1 : l[n].value < 0 → valF (some l[n]) = (0, false) := fun h => by unfold valF; exact if_pos h
      have e2 : ¬ l[n].value < 0 → valF (some l[n]) = (l[n].value, true) := fun h => by unfold valF; exact if_neg h
      obtain ⟨r, hr⟩ : ∃ r, r = valF (some l[n]) := ⟨_, rfl⟩
      rw [← hr] at e1 e2 ⊢
      refine code_sound (more := more8 false _ _) more8_ok FOK.wide _ ?_
      repeat' ((try conv => whnf); first | (first | refine k3 (fun hb => ?_) fun hb => ?_ | refine k4 (fun hb => ?_) fun hb => ?_) <;> (try rw [List.length_map] at hb) <;> (try (exfalso; omega; done)) | refine s5 nm nm ?_ | fail)
      all_goals first | (rw [e1 (by assumption)]; exact PSub.refl _) | (rw [e2 (by assumption)]; exact PSub.refl _)
end Go.Proofs.Ytinhhmnnfbeimaa
/- Facts: what is known up to a time; the values on days. Conditions: none. -/
namespace Go.Proofs.Ytinhhmnnfbeimaa
open Go.Avc
def uptoF (l : List Fa) (kn : Int) : List Fa := l.filter fun f => decide (f.known ≤ kn)
theorem upto_take {l : List Fa} {kn : Int} {i : Nat} (h : i < l.length) : uptoF (l.take (i + 1)) kn = if l[i].known ≤ kn then uptoF (l.take i) kn ++ [l[i]] else uptoF (l.take i) kn := by
  unfold uptoF
  rw [List.take_succ_eq_append_getElem h, List.filter_append]
  by_cases e : l[i].known ≤ kn <;> simp [e]
theorem upto_len (l : List Fa) (kn : Int) : (uptoF l kn).length ≤ l.length := List.length_filter_le _ _
/-- The values on n days from the day d on. -/
def ptsN (l : List Fa) (k : Ky) (d : Int) (n : Nat) (kn : Int) : List (Int × Int) := (List.range n).filterMap fun i : Nat => if (atF l k (d + (i : Int)) kn).2 = true then some (d + (i : Int), (atF l k (d + (i : Int)) kn).1) else none
theorem ptsN_succ (l : List Fa) (k : Ky) (d : Int) (n : Nat) (kn : Int) : ptsN l k d (n + 1) kn = if (atF l k (d + n) kn).2 = true then ptsN l k d n kn ++ [(d + n, (atF l k (d + n) kn).1)] else ptsN l k d n kn := by
  unfold ptsN
  rw [List.range_succ, List.filterMap_append]
  by_cases e : (atF l k (d + n) kn).2 = true <;> simp [e]
theorem ptsN_len (l : List Fa) (k : Ky) (d : Int) (n : Nat) (kn : Int) : (ptsN l k d n kn).length ≤ n := by
  unfold ptsN
  exact Nat.le_trans (List.length_filterMap_le _ _) (by simp)
def ptsF (l : List Fa) (k : Ky) (lo hi kn : Int) : List (Int × Int) := ptsN l k (max 0 lo) (min hi 1024 - max 0 lo).toNat kn
def encPt (p : Int × Int) : List PV := [.int p.1, .int p.2]
def encPts (l : List (Int × Int)) : PV := .sl 2 (l.map encPt)
theorem sub_sl {sz : Nat} {r r' : List (List PV)} (h : r = r') : PSub (.sl sz r) (.sl sz r') := by rw [h]; exact PSub.refl _
set_option maxRecDepth 20000
set_option maxHeartbeats 4000000
set_option linter.unusedSimpArgs false
attribute [local irreducible] PSub Wp PSpec Le Need Both
attribute [local irreducible] Fa.bef atF
theorem upto_spec (l : List Fa) (kn : Int) (hl : l.length ≤ 100000) : PSpec Try.prog 28 [encFs l, .int kn] (encFs (uptoF l kn)) := by
  refine PSpec.of_vc (fun Γ => more8 false Γ.P Γ.fx) (fun Γ => more8_ok) Try.func28 rfl Try.call28 (by simp) ?_
  rintro ⟨P, N, w0, X, β0, fx, y, hy, pk, df⟩ rfl rfl rfl hoff rfl; change y.on = false at hoff
  skip
  refine Wp.loop (fun i : Nat => ⟨[(1, .int kn), (4, .lsl 60 0 (uptoF (l.take i) kn).length), (7, .pure (encFs l)), (8, .int l.length), (9, .int i)], [(60, some (.row 8 ((uptoF (l.take i) kn).map encFa)))], [60]⟩) (fun i => i ≤ l.length) (fun i => l.length - i) 0 (Le.trans (Le.virt (k := 60) (sz := 8) rfl rfl (by omega)) (Le.of ?_ ?_ rfl rfl rfl)) (by omega) ?_
  · (repeat' (first | exact trivial | refine And.intro ?_ ?_ | exact Or.inl rfl | exact l1 bd | exact l6 rfl | fail))
  · (repeat' (first | exact trivial | exact rfl | refine And.intro ?_ ?_ | fail))
  intro i hi
  by_cases hi2 : i < l.length
  · have ht := upto_take (kn := kn) hi2
    have hlen := upto_len (l.take i) kn
    rw [List.length_take] at hlen
    obtain ⟨u, hu⟩ : ∃ u, u = uptoF (l.take i) kn := ⟨_, rfl⟩
    rw [← hu] at ht hlen ⊢
    by_cases hp : l[i].known ≤ kn
    · rw [if_pos hp] at ht
      refine code_sound (more := more8 false _ _) more8_ok FOK.wide _ ?_
      repeat' ((try conv => whnf); first | (first | refine k3 (fun hb => ?_) fun hb => ?_ | refine k4 (fun hb => ?_) fun hb => ?_) <;> (try rw [List.length_map] at hb) <;> (try (exfalso; omega; done)) | refine And.intro rfl ?_ | refine s4 nm ?_ | refine s5 nm nm ?_ | refine And.intro bd ?_ | fail)
      refine ⟨i + 1, Le.map [(60, 20)] ?_ ?_ rfl rfl rfl rfl, by omega, by omega⟩
      · rw [ht]; (repeat' (first | exact trivial | refine And.intro ?_ ?_ | exact Or.inl rfl | exact SubA.lsl ls | fail))
      · rw [ht]
        (repeat' (first | exact trivial | refine And.intro ?_ ?_ | fail))
        all_goals first
          | (refine SubA.lsl ?_; focus (simp; done))
          | (refine rowEq ?_; focus (simp; done))
          | (refine rowEq ?_; focus (rw [List.map_append]; rfl))
    · rw [if_neg hp] at ht
      refine code_sound (more := more8 false _ _) more8_ok FOK.wide _ ?_
      repeat' ((try conv => whnf); first | (first | refine k3 (fun hb => ?_) fun hb => ?_ | refine k4 (fun hb => ?_) fun hb => ?_) <;> (try rw [List.length_map] at hb) <;> (try (exfalso; omega; done)) | refine And.intro rfl ?_ | refine s4 nm ?_ | refine s5 nm nm ?_ | fail)
      refine ⟨i + 1, Le.of ?_ ?_ rfl rfl rfl, by omega, by omega⟩
      · rw [ht]; (repeat' (first | exact trivial | refine And.intro ?_ ?_ | exact Or.inl rfl | fail))
      · rw [ht]; (repeat' (first | exact trivial | exact rfl | refine And.intro ?_ ?_ | fail))
  · refine code_sound (more := more8 false _ _) more8_ok FOK.wide _ ?_
    repeat' ((try conv => whnf); first | (first | refine k3 (fun hb => ?_) fun hb => ?_ | refine k4 (fun hb => ?_) fun hb => ?_) <;> (try rw [List.length_map] at hb) <;> (try (exfalso; omega; done)) | fail)
    exact sub_sl (by rw [List.drop_zero, List.take_of_length_le (by simp), show i = l.length by omega, List.take_of_length_le (Nat.le_refl _)])
theorem rpts_spec (l : List Fa) (k : Ky) (lo hi kn : Int) (hl : l.length ≤ 100000) : PSpec Try.prog 22 [encFs l, .agg (encKy k), .int lo, .int hi, .int kn] (encPts (ptsF l k lo hi kn)) := by
  obtain ⟨d, hd⟩ : ∃ d, d = max 0 lo := ⟨_, rfl⟩
  have hd0 : 0 ≤ d := by omega
  obtain ⟨m, hm⟩ : ∃ m, m = (min hi 1024 - d).toNat := ⟨_, rfl⟩
  have hpf : ptsF l k lo hi kn = ptsN l k d m kn := by unfold ptsF; rw [hm, hd]
  rw [hpf]
  refine PSpec.of_vc (fun Γ => more8 false Γ.P Γ.fx) (fun Γ => more8_ok) Try.func22 rfl Try.call22 (by simp) ?_
  rintro ⟨P, N, w0, X, β0, fx, y, hy, pk, df⟩ rfl rfl rfl hoff rfl; change y.on = false at hoff
  repeat' ((try conv => whnf); first | refine And.intro bd ?_ | fail)
  refine Wp.loop (fun i : Nat => ⟨[(0, .pure (encFs l)), (3, .int hi), (4, .int kn), (6, .loc 6 0 0), (11, .lsl 15 0 (ptsN l k d i kn).length), (12, .int (d + i))], [(6, some (.box (pures (encKy k)))), (15, some (.row 2 ((ptsN l k d i kn).map encPt)))], [6, 15]⟩) (fun i => i ≤ m) (fun i => m - i) 0 (Le.of ?_ ?_ rfl rfl rfl) (by omega) ?_
  · (repeat' (first | exact trivial | refine And.intro ?_ ?_ | exact Or.inl rfl | exact l1 bd | fail))
  · (repeat' (first | exact trivial | exact rfl | refine And.intro ?_ ?_ | refine Exists.intro _ (And.intro rfl ?_) | exact Or.inl rfl | fail))
  intro i hi2
  have q := rat_spec l k (d + i) kn (by omega)
  have hs := ptsN_succ l k d i kn
  have hlen := ptsN_len l k d i kn
  obtain ⟨x, hx⟩ : ∃ x, x = atF l k (d + i) kn := ⟨_, rfl⟩
  obtain ⟨p, hp⟩ : ∃ p, p = ptsN l k d i kn := ⟨_, rfl⟩
  rw [← hx] at q hs
  rw [← hp] at hs hlen ⊢
  obtain ⟨v, b⟩ := x
  dsimp only at hs
  refine code_sound (more := more8 false _ _) more8_ok FOK.wide _ ?_
  repeat' ((try conv => whnf); first | (first | refine k3 (fun hb => ?_) fun hb => ?_ | refine k4 (fun hb => ?_) fun hb => ?_) <;> (try rw [List.length_map] at hb) <;> (try (exfalso; omega; done)) | fail)
  · refine .inl ⟨_, q, ?_⟩
    repeat' ((try conv => whnf); first | refine k6 (fun hb => ?_) fun hb => ?_ | refine s4 nm ?_ | refine And.intro bd ?_ | fail)
    · rw [if_pos (show b = true by assumption)] at hs
      refine ⟨i + 1, Le.map [(15, 38)] ?_ ?_ rfl rfl rfl rfl, by omega, by omega⟩
      · rw [hs]; (repeat' (first | exact trivial | refine And.intro ?_ ?_ | exact Or.inl rfl | exact l1 bd | exact SubA.lsl ls | fail))
      · rw [hs]
        (repeat' (first | exact trivial | refine And.intro ?_ ?_ | refine Exists.intro _ (And.intro rfl ?_) | exact Or.inl rfl | fail))
        all_goals first
          | (refine SubA.lsl ?_; focus (simp; done))
          | (refine rowEq ?_; focus (simp; done))
          | (refine rowEq ?_; focus (rw [List.map_append]; rfl))
          | (refine l1 ?_; rw [Int.natCast_succ]; omega)
    · rw [if_neg (by rw [show b = false by assumption]; exact Bool.false_ne_true)] at hs
      refine ⟨i + 1, Le.of ?_ ?_ rfl rfl rfl, by omega, by omega⟩
      · rw [hs]; (repeat' (first | exact trivial | refine And.intro ?_ ?_ | exact Or.inl rfl | exact l1 bd | fail))
      · rw [hs]; (repeat' (first | exact trivial | exact rfl | refine And.intro ?_ ?_ | refine Exists.intro _ (And.intro rfl ?_) | exact Or.inl rfl | fail))
  · have e : i = m := by omega
    subst e
    exact sub_sl (by rw [List.drop_zero, List.take_of_length_le (by simp), hp])
end Go.Proofs.Ytinhhmnnfbeimaa
/- Facts: they are grouped by their keys. Conditions: none. -/
namespace Go.Proofs.Ytinhhmnnfbeimaa
open Go.Avc
def kyK : MKey Ky := recK [.i .i64, .i .i64, .i .i64] vKy (fun _ => ⟨rfl, rfl, rfl, trivial⟩) (fun a b => by
  obtain ⟨a1, a2, a3⟩ := a; obtain ⟨b1, b2, b3⟩ := b
  simp [vKy])
def facL (l : List Fa) : List (Ky × List PV) := l.map fun f => (f.key, encFa f)
def grpPV (l : List Fa) : PV := .mp ((gks (facL l)).map kyK.val) ((gks (facL l)).map fun k => .sl 8 (grw (facL l) k))
set_option maxRecDepth 20000
set_option maxHeartbeats 4000000
set_option linter.unusedSimpArgs false
attribute [local irreducible] PSub Wp PSpec Le Need Both
theorem group_spec (l : List Fa) (hl : l.length ≤ 1000000) : PSpec Try.prog 38 [encFs l] (grpPV l) := by
  have hL : (facL l).length = l.length := by simp [facL]
  have hat : ∀ i (h : i < (facL l).length), (facL l)[i] = ((l[i]'(by omega)).key, encFa (l[i]'(by omega))) := fun i h => by simp [facL]
  have hval : ∀ q ∈ facL l, ∀ p ∈ q.2, ∃ v, p = .val v := by
    intro q hq p hp
    unfold facL at hq
    rw [List.mem_map] at hq
    obtain ⟨f, _, rfl⟩ := hq
    simp only [encFa, List.mem_cons, List.not_mem_nil, or_false] at hp
    rcases hp with rfl | rfl | rfl | rfl | rfl | rfl | rfl | rfl <;> exact ⟨_, rfl⟩
  refine PSpec.of_vcG2 kyK 8 (facL l) (t := 2) Try.func38 rfl Try.call38 (by simp) rfl ?_
  have hz : ∀ u : World, (zeroValue 22).run Try.prog u = .ok (.slice none 0 0) u := zeroNil (by kernel_rfl)
  have hok : kyK.ok Try.prog 24 = true := by kernel_rfl
  rintro ⟨P, N, w0, X, β0, fx, y, hy, pk, df⟩ rfl rfl rfl rfl hG
  skip
  refine Wp.mkMap (more := more8 false _ _) (rest := [_]) more8_ok FOK.wide hG rfl rfl rfl rfl rfl (Nat.le_of_ble_eq_true rfl) rfl fun mb => ?_
  skip
  refine Wp.loop (fun i : Nat => ⟨[(3, .pure (.val (.map (some mb)))), (7, .pure (encFs l)), (8, .int l.length), (9, .int i), (24, .gh (gIx (facL l).length mb i) false)], [], []⟩) (fun i => i ≤ l.length) (fun i => l.length - i) 0 (Le.of ?_ ?_ rfl rfl rfl) (by omega) ?_
  · (repeat' (first | exact trivial | refine And.intro ?_ ?_ | exact Or.inl rfl | exact l1 bd | fail))
  · (repeat' (first | exact trivial | fail))
  intro i hi
  by_cases hi2 : i < l.length
  · have hiL : i < (facL l).length := by omega
    have hLi := hat i hiL
    have hg : grw ((facL l).take (i + 1)) (facL l)[i].1 = grw ((facL l).take i) (facL l)[i].1 ++ [encFa l[i]] := by
      rw [take_at hiL, grw_snoc, if_pos rfl, hLi]
    have hgl : (grw ((facL l).take i) (facL l)[i].1).length ≤ 1000000 := by have := grw_len ((facL l).take i) (facL l)[i].1; rw [List.length_take] at this; omega
    refine code_soundG (more := more8 false _ _) more8_ok FOK.wide _ ?_
    repeat' ((try conv => whnf); first | (first | refine k3 (fun hb => ?_) fun hb => ?_ | refine k4 (fun hb => ?_) fun hb => ?_) <;> (try rw [List.length_map] at hb) <;> (try (exfalso; omega; done)) | refine And.intro rfl ?_ | refine s5 nm nm ?_ | fail)
    refine Wp.grow (more := more8 false _ _) (l1 := [_, _, _, _, _]) (l2 := [_, _, _]) (k0 := 400) (k1 := 20) (i := i) (mb := mb) more8_ok FOK.wide hG hval rfl rfl rfl rfl rfl rfl rfl (Nat.le_of_ble_eq_true rfl) Try.underlying70 hz hok hiL (by simp) (by simp) ?_
    repeat' ((try conv => whnf); first | refine And.intro rfl ?_ | refine And.intro bd ?_ | fail)
    refine And.intro ⟨vKy l[i].key, rfl, by rw [hLi]; rfl, _, .inl rfl⟩ ?_
    refine And.intro rfl (And.intro (by show 400 ∉ [18, 5]; decide) ?_)
    rintro j x s2 (⟨rfl, rfl⟩ | ⟨rfl, hnil, rfl⟩)
    · repeat' ((try conv => whnf); first | refine And.intro rfl ?_ | refine And.intro bd ?_ | fail)
      refine ⟨?_, ?_, rfl, ?_⟩
      · show AV.lsl 20 0 _ = AV.lsl 20 0 _
        rw [hg, List.length_append]
        rfl
      · rw [hg]; rfl
      · repeat' ((try conv => whnf); first | refine s4 nm ?_ | fail)
        exact ⟨i + 1, Le.of (by (repeat' (first | exact trivial | refine And.intro ?_ ?_ | exact Or.inl rfl | fail))) (by (repeat' (first | exact trivial | fail))) rfl rfl rfl, by omega, by omega⟩
    · repeat' ((try conv => whnf); first | refine And.intro rfl ?_ | refine And.intro bd ?_ | fail)
      refine ⟨?_, ?_, rfl, ?_⟩
      · show AV.lsl 20 0 _ = AV.lsl 20 0 _
        rw [hg, hnil]
        rfl
      · rw [hg, hnil]; rfl
      · repeat' ((try conv => whnf); first | refine s4 nm ?_ | fail)
        exact ⟨i + 1, Le.of (by (repeat' (first | exact trivial | refine And.intro ?_ ?_ | exact Or.inl rfl | fail))) (by (repeat' (first | exact trivial | fail))) rfl rfl rfl, by omega, by omega⟩
  · have e : i = l.length := by omega
    subst e
    refine code_soundG (more := more8 false _ _) more8_ok FOK.wide _ ?_
    repeat' ((try conv => whnf); first | (first | refine k3 (fun hb => ?_) fun hb => ?_ | refine k4 (fun hb => ?_) fun hb => ?_) <;> (try rw [List.length_map] at hb) <;> (try (exfalso; omega; done)) | fail)
    refine ⟨mb, ?_, rfl⟩
    show AV.gh (gIx (facL l).length mb l.length) false = AV.gh (gIx (facL l).length mb (facL l).length) false
    rw [hL]
end Go.Proofs.Ytinhhmnnfbeimaa
/- Facts: lists out of iterators; values painted on the days. Conditions: none. -/
namespace Go.Proofs.Ytinhhmnnfbeimaa
open Go.Avc
/-- The number of the fact that counts on a day, among the first i; 0 where there is none. -/
def cntF (own : List Fa) (d : Int) : Nat → Int
  | 0 => 0
  | i + 1 => if ((own.getD i zeroFa).lo ≤ d ∧ d < (own.getD i zeroFa).hi) ∧ (cntF own d i = 0 ∨ ¬ (own.getD i zeroFa).bef (own.getD (cntF own d i - 1).toNat zeroFa)) then i + 1 else cntF own d i
theorem cnt_rel (own : List Fa) (d : Int) : ∀ {i : Nat}, i ≤ own.length → (cntF own d i = 0 ∧ (own.take i).foldl (pickF d) none = none) ∨ ∃ (m : Nat) (h : m < own.length), m < i ∧ cntF own d i = m + 1 ∧ (own.take i).foldl (pickF d) none = some own[m]
  | 0, _ => .inl ⟨rfl, rfl⟩
  | i + 1, h => by
    have hi : i < own.length := by omega
    have hg : own.getD i zeroFa = own[i] := by simp [List.getD, hi]
    have hstep : (own.take (i + 1)).foldl (pickF d) none = pickF d ((own.take i).foldl (pickF d) none) own[i] := by
      rw [List.take_succ_eq_append_getElem hi, List.foldl_append]; rfl
    rw [hstep]
    simp only [cntF, hg]
    rcases cnt_rel own d (i := i) (by omega) with ⟨e1, e2⟩ | ⟨m, hm, h1, e1, e2⟩
    · rw [e2]
      by_cases hd : own[i].lo ≤ d ∧ d < own[i].hi
      · rw [if_pos ⟨hd, .inl e1⟩, pickF_none hd]
        exact .inr ⟨i, hi, by omega, rfl, rfl⟩
      · rw [if_neg fun h => hd h.1, pickF_no hd]
        exact .inl ⟨e1, rfl⟩
    · rw [e2]
      have hgm : own.getD (cntF own d i - 1).toNat zeroFa = own[m] := by
        rw [e1, show ((m : Int) + 1 - 1).toNat = m by omega]
        simp [List.getD, hm]
      rw [hgm]
      by_cases hd : own[i].lo ≤ d ∧ d < own[i].hi
      · by_cases hb : own[i].bef own[m]
        · rw [if_neg (by rintro ⟨_, h | h⟩; omega; exact h hb), pickF_keep hb]
          exact .inr ⟨m, hm, by omega, e1, rfl⟩
        · rw [if_pos ⟨hd, .inr hb⟩, pickF_yes hd hb]
          exact .inr ⟨i, hi, by omega, rfl, rfl⟩
      · rw [if_neg fun h => hd h.1, pickF_no hd]
        exact .inr ⟨m, hm, by omega, e1, rfl⟩
theorem cnt_bound (own : List Fa) (d : Int) {i : Nat} (h : i ≤ own.length) : 0 ≤ cntF own d i ∧ cntF own d i ≤ i := by
  rcases cnt_rel own d h with ⟨e, _⟩ | ⟨m, _, h1, e, _⟩ <;> rw [e] <;> omega
theorem getD_at {α : Type} {l : List α} {n : Nat} {z : α} (h : n < l.length) : l.getD n z = l[n] := by
  rw [List.getD_eq_getElem?_getD, List.getElem?_eq_getElem h]; rfl
theorem rep_getD (x : Nat) (hx : x < 1024) : (List.replicate 1024 (0 : Int)).getD x 0 = 0 := by
  rw [List.getD_eq_getElem?_getD, List.getElem?_replicate, if_pos hx]; rfl
theorem set_getD {cs : List Int} {n x : Nat} {v : Int} (hn : n < cs.length) : (cs.set n v).getD x 0 = if x = n then v else cs.getD x 0 := by
  rw [List.getD_eq_getElem?_getD, List.getD_eq_getElem?_getD, List.getElem?_set]
  by_cases e : n = x
  · subst e; simp [hn]
  · rw [if_neg e, if_neg (Ne.symm e)]
theorem cnt_out {own : List Fa} {d : Int} {i : Nat} (h : ¬ ((own.getD i zeroFa).lo ≤ d ∧ d < (own.getD i zeroFa).hi)) : cntF own d (i + 1) = cntF own d i := by
  rw [cntF, if_neg fun h' => h h'.1]
theorem inner_step {own : List Fa} {i : Nat} {D : Int} {e : Nat} {cs cs' : List Int} (hD : 0 ≤ D) (hcs : ∀ x : Nat, x < 1024 → cs.getD x 0 = if (x : Int) < D + e then cntF own x (i + 1) else cntF own x i)
    (h' : ∀ x : Nat, x ≠ (D + (e : Int)).toNat → cs'.getD x 0 = cs.getD x 0) (hv : cs'.getD (D + (e : Int)).toNat 0 = cntF own (D + e) (i + 1)) : ∀ x : Nat, x < 1024 → cs'.getD x 0 = if (x : Int) < D + ((e + 1 : Nat) : Int) then cntF own x (i + 1) else cntF own x i := by
  intro x hx
  by_cases e0 : x = (D + (e : Int)).toNat
  · rw [e0, hv, if_pos (by omega), show (((D + (e : Int)).toNat : Nat) : Int) = D + e by omega]
  · rw [h' x e0, hcs x hx]
    by_cases h1 : (x : Int) < D + e
    · rw [if_pos h1, if_pos (by omega)]
    · rw [if_neg h1, if_neg (by omega)]
/-- The value on a day, -1 where there is none. -/
def pnt (l : List Fa) (k : Ky) (kn : Int) (d : Int) : Int := if (atF l k d kn).2 = true then (atF l k d kn).1 else -1
def pntL (l : List Fa) (k : Ky) (kn : Int) : List Int := (List.range 1024).map fun d : Nat => pnt l k kn (d : Int)
def encA (l : List Int) : PV := .par 1 (l.map fun x => [PV.int x])
theorem pnt_cnt {l : List Fa} {k : Ky} {kn d : Int} : pnt l k kn d = if 0 < cntF (abtF l k kn) d (abtF l k kn).length then max ((abtF l k kn).getD (cntF (abtF l k kn) d (abtF l k kn).length - 1).toNat zeroFa).value (-1) else -1 := by
  unfold pnt atF bestF
  have h := cnt_rel (abtF l k kn) d (Nat.le_refl _)
  rw [List.take_of_length_le (Nat.le_refl _)] at h
  rcases h with ⟨e1, e2⟩ | ⟨m, hm, h1, e1, e2⟩
  · rw [e1, e2]; simp [valF]
  · rw [e1, e2, if_pos (by omega : (0 : Int) < (m : Int) + 1), show ((m : Int) + 1 - 1).toNat = m by omega]
    have hg : (abtF l k kn).getD m zeroFa = (abtF l k kn)[m] := by simp [List.getD, hm]
    rw [hg]
    unfold valF
    simp only
    split <;> split <;> simp_all <;> omega
set_option maxRecDepth 20000
set_option maxHeartbeats 4000000
set_option linter.unusedSimpArgs false
attribute [local irreducible] PSub Wp PSpec Le Need Both
attribute [local irreducible] Fa.bef atF
theorem appendSeqF_spec (xs : List Fa) (f : FuncId) (caps : List PV) (hI : ISpec Try.prog f caps (facRows xs)) (hl : xs.length ≤ 1000000) : PSpec Try.prog 53 [.val (.slice none 0 0), .fn f caps] (encFs xs) := by
  have e : (facRows xs).length = xs.length := by simp [facRows]
  refine PSpec.of_vc (fun Γ => more8 false Γ.P Γ.fx) (fun Γ => more8_ok) Try.func53 rfl Try.call53 (by simp) ?_
  rintro ⟨P, N, w0, X, β0, fx, y, hy, pk, df⟩ rfl rfl rfl hoff rfl; change y.on = false at hoff
  skip
  refine Wp.rangeFunc hI [(2, .loc 2 0 0), (4, .pure (.val (.slice none 0 0))), (6, .pure (.fn f caps))]
      (fun i => [(2, some (.box [.lsl 50 0 (xs.take i).length])), (50, some (.row 8 ((xs.take i).map encFa)))]) (fun _ => [2, 50]) [2]
      (fun _ => True)
      (Le.trans (Le.virt (k := 50) (sz := 8) rfl rfl (by omega)) (Le.of ?_ ?_ rfl rfl rfl)) rfl hoff trivial rfl rfl (fun _ => rfl) rfl (fun i row hrow => ?_) ?_ ?_
  · (repeat' (first | exact trivial | refine And.intro ?_ ?_ | exact Or.inl rfl | fail))
  · (repeat' (first | exact trivial | exact rfl | refine And.intro ?_ ?_ | refine Exists.intro _ (And.intro rfl ?_) | exact l6 rfl | fail))
  · simp only [facRows, List.getElem?_map, Option.map_eq_some_iff] at hrow
    obtain ⟨w, _, rfl⟩ := hrow
    rfl
  · rintro ⟨P1, N1, w1, X1, β1, fx1, y1, hy1, pk1, df1⟩ rfl rfl rfl hoff1 rfl l k row hrow hok; change y1.on = false at hoff1
    have hk : k < xs.length := by have := (List.getElem?_eq_some_iff.1 hrow).1; simpa [facRows] using this
    rw [facRows, List.getElem?_map, List.getElem?_eq_getElem hk] at hrow
    cases hrow
    have hlt : (xs.take k).length = k := by simp; omega
    refine code_sound (more := more8 false _ _) more8_ok (FOK.inRound _) _ ?_
    repeat' ((try conv => whnf); first | refine And.intro rfl ?_ | fail)
    rintro ⟨P2, N2, w2, X2, β2, fx2, y2, hy2, pk2, df2⟩ rfl rfl rfl hoff2 rfl; change y2.on = false at hoff2
    refine code_sound (more := more8 false _ _) more8_ok (FOK.inRound _) _ ?_
    repeat' ((try conv => whnf); first | refine Both.intro ?_ ?_ | refine And.intro rfl ?_ | refine And.intro bd ?_ | fail)
    · refine Le.map [(50, 11)] trivial ?_ rfl rfl rfl rfl
      (repeat' (first | exact trivial | refine And.intro ?_ ?_ | refine Exists.intro _ (And.intro rfl ?_) | exact SubA.lsl ls | fail))
      all_goals first
        | (refine SubA.lsl ?_; focus (simp; omega))
        | (refine rowEq ?_; focus (rw [List.take_succ_eq_append_getElem hk, List.map_append]; rfl))
    · trivial
  · intro _
    rw [e, List.take_of_length_le (Nat.le_refl _)]
    skip
    exact sub_sl (by rw [List.drop_zero, List.take_of_length_le (by simp)])
theorem collectF_spec (xs : List Fa) (f : FuncId) (caps : List PV) (hI : ISpec Try.prog f caps (facRows xs)) (hl : xs.length ≤ 1000000) : PSpec Try.prog 48 [.fn f caps] (encFs xs) := by
  refine PSpec.of_vc (fun Γ => more8 false Γ.P Γ.fx) (fun Γ => more8_ok) Try.func48 rfl Try.call48 (by simp) ?_
  rintro ⟨P, N, w0, X, β0, fx, y, hy, pk, df⟩ rfl rfl rfl hoff rfl; change y.on = false at hoff
  skip
  refine .inl ⟨_, appendSeqF_spec xs f caps hI hl, ?_⟩
  repeat' ((try conv => whnf); first | refine And.intro rfl ?_ | fail)
  exact PSub.refl _
theorem paint_spec (l : List Fa) (k : Ky) (kn : Int) (hl : l.length ≤ 100000) : PSpec Try.prog 37 [encFs l, .agg (encKy k), .int kn] (encA (pntL l k kn)) := by
  have hI := about1_spec l k kn (by omega)
  have hpnt : ∀ d : Int, pnt l k kn d = if 0 < cntF (abtF l k kn) d (abtF l k kn).length then max ((abtF l k kn).getD (cntF (abtF l k kn) d (abtF l k kn).length - 1).toNat zeroFa).value (-1) else -1 := fun d => pnt_cnt
  obtain ⟨own, hown⟩ : ∃ xs, xs = abtF l k kn := ⟨_, rfl⟩
  have ho : own.length ≤ l.length := by rw [hown]; exact List.length_filter_le _ _
  rw [← hown] at hI hpnt
  have hol : (own.map encFa).length = own.length := List.length_map ..
  refine PSpec.of_vc (fun Γ => more8 false Γ.P Γ.fx) (fun Γ => more8_ok) Try.func37 rfl Try.call37 (by simp) ?_
  rintro ⟨P, N, w0, X, β0, fx, y, hy, pk, df⟩ rfl rfl rfl hoff rfl; change y.on = false at hoff
  skip
  refine .inl ⟨_, about_spec l k kn, ?_⟩
  repeat' ((try conv => whnf); first | refine And.intro rfl ?_ | fail)
  refine .inl ⟨_, collectF_spec own _ _ hI (by omega), ?_⟩
  repeat' ((try conv => whnf); first | refine And.intro rfl ?_ | fail)
  refine Wp.loop (fun y : Nat × List Int => ⟨[(7, .loc 7 0 0), (8, .pure (encFs own)), (19, .pure (encFs own)), (20, .int own.length), (21, .int y.1)], [(7, some (.row 1 (y.2.map fun x => [PV.int x])))], [7]⟩)
    (fun y => y.1 ≤ own.length ∧ y.2.length = 1024 ∧ ∀ x : Nat, x < 1024 → y.2.getD x 0 = cntF own x y.1) (fun y => own.length - y.1) (0, List.replicate 1024 0) (Le.of ?_ ?_ rfl rfl rfl) ⟨Nat.zero_le _, List.length_replicate, fun x hx => rep_getD x hx⟩ ?_
  · (repeat' (first | exact trivial | refine And.intro ?_ ?_ | exact Or.inl rfl | exact l1 bd | fail))
  · refine And.intro (rowEq ?_) trivial
    kernel_rfl
  rintro ⟨i, cs⟩ ⟨hi, hc, hcs⟩
  dsimp only at hi hc hcs ⊢
  by_cases hi2 : i < own.length
  · have hgi : own.getD i zeroFa = own[i] := by simp [List.getD, hi2]
    obtain ⟨D, hD⟩ : ∃ D, D = max own[i].lo 0 := ⟨_, rfl⟩
    refine code_sound (more := more8 false _ _) more8_ok FOK.wide _ ?_
    repeat' ((try conv => whnf); first | (first | refine k3 (fun hb => ?_) fun hb => ?_ | refine k4 (fun hb => ?_) fun hb => ?_) <;> (try rw [List.length_map] at hb) <;> (try (exfalso; omega; done)) | refine And.intro rfl ?_ | refine s5 nm nm ?_ | fail)
    refine Wp.loop (fun z : Nat × List Int => ⟨[(7, .loc 7 0 0), (8, .pure (encFs own)), (9, .int i), (10, .loc 10 0 0), (11, .int (D + z.1)), (19, .pure (encFs own)), (20, .int own.length), (21, .int i)], [(7, some (.row 1 (z.2.map fun x => [PV.int x]))), (10, some (.box (pures (encFa own[i]))))], [7, 10]⟩)
      (fun z => z.2.length = 1024 ∧ (z.1 = 0 ∨ D + z.1 ≤ min own[i].hi 1024) ∧ ∀ x : Nat, x < 1024 → z.2.getD x 0 = if (x : Int) < D + z.1 then cntF own x (i + 1) else cntF own x i) (fun z => (1024 - D - z.1).toNat) (0, cs) (Le.of ?_ ?_ rfl rfl rfl) ⟨hc, .inl rfl, fun x hx => by
        rw [hcs x hx]
        split
        · rw [cnt_out]
          rw [hgi]
          simp only [Int.natCast_zero] at *
          omega
        · rfl⟩ ?_
    · (repeat' (first | exact trivial | refine And.intro ?_ ?_ | exact Or.inl rfl | exact l1 bd | fail))
    · (repeat' (first | exact trivial | exact rfl | refine And.intro ?_ ?_ | refine Exists.intro _ (And.intro rfl ?_) | exact Or.inl rfl | fail))
    clear hcs hc
    clear cs
    rintro ⟨e, cs⟩ ⟨hc, he, hcs⟩
    dsimp only at hc he hcs ⊢
    by_cases hlt : D + (e : Int) < min own[i].hi 1024
    · have hn : (D + (e : Int)).toNat < cs.length := by omega
      have hcn := hcs (D + (e : Int)).toNat (by omega)
      rw [if_neg (by omega), show (((D + (e : Int)).toNat : Nat) : Int) = D + e by omega] at hcn
      have hb := cnt_bound own (D + e) (i := i) (by omega)
      have hgc : cs.getD (D + (e : Int)).toNat 0 = cs[(D + (e : Int)).toNat] := by simp [List.getD, hn]
      rw [hgc] at hcn
      have hcn0 : 0 ≤ cs[(D + (e : Int)).toNat] ∧ cs[(D + (e : Int)).toNat] ≤ i := by omega
      have hin : own[i].lo ≤ D + (e : Int) ∧ D + (e : Int) < own[i].hi := by omega
      have hst : ∀ v : Int, v = cntF own (D + e) (i + 1) → ∀ x : Nat, x < 1024 → (cs.set (D + (e : Int)).toNat v).getD x 0 = if (x : Int) < D + ((e + 1 : Nat) : Int) then cntF own x (i + 1) else cntF own x i := fun v hv =>
        inner_step (by omega) hcs (fun x hx => by rw [set_getD hn, if_neg hx]) (by rw [set_getD hn, if_pos rfl, hv])
      have hnew : (cntF own (D + e) i = 0 ∨ ¬ own[i].bef (own.getD (cntF own (D + e) i - 1).toNat zeroFa)) → ((i : Int) + 1) = cntF own (D + e) (i + 1) := fun h => by
        rw [cntF, hgi, if_pos ⟨hin, h⟩]
      have hkeep : ¬ (cntF own (D + e) i = 0 ∨ ¬ own[i].bef (own.getD (cntF own (D + e) i - 1).toNat zeroFa)) → cs[(D + (e : Int)).toNat] = cntF own (D + e) (i + 1) := fun h => by
        rw [cntF, hgi, if_neg fun h' => h h'.2, hcn]
      by_cases h0 : cs[(D + (e : Int)).toNat] = 0
      · refine code_sound (more := more8 false _ _) more8_ok FOK.wide _ ?_
        repeat' ((try conv => whnf); first | (first | refine k3 (fun hb => ?_) fun hb => ?_ | refine k4 (fun hb => ?_) fun hb => ?_) <;> (try rw [List.length_map] at hb) <;> (try (exfalso; omega; done)) | fail)
        refine Wp.draw (more := more8 true _ _) more8_det more8_ok FOK.wide rfl (by decide +kernel) (by conv => lhs; reduce) ?_
        repeat' ((try conv => whnf); first | (first | refine k3 (fun hb => ?_) fun hb => ?_ | refine k4 (fun hb => ?_) fun hb => ?_) <;> (try rw [List.length_map] at hb) <;> (try (exfalso; omega; done)) | refine And.intro rfl ?_ | refine s4 nm ?_ | refine And.intro bd ?_ | refine ⟨_, _, getMapN nm, rfl, ?_⟩ | refine .inl ⟨rfl, rfl, bd, rfl, rfl, ?_⟩ | fail)
        refine ⟨(e + 1, cs.set (D + (e : Int)).toNat ((i : Int) + 1)), Le.of ?_ ?_ rfl rfl rfl, ⟨by rw [List.length_set]; exact hc, .inr (by simp only; omega), hst _ (hnew (.inl (by omega)))⟩, by simp only; omega⟩
        · (repeat' (first | exact trivial | refine And.intro ?_ ?_ | exact Or.inl rfl | exact l1 bd | fail))
        · (repeat' (first | exact trivial | refine And.intro ?_ ?_ | refine Exists.intro _ (And.intro rfl ?_) | exact Or.inl rfl | exact rowEq rs | fail))
          all_goals (refine rowEq ?_; rw [List.map_set])
      · have hm : (cs[(D + (e : Int)).toNat] - 1).toNat < own.length := by omega
        have hgm : own.getD (cntF own (D + e) i - 1).toNat zeroFa = own[(cs[(D + (e : Int)).toNat] - 1).toNat] := by rw [← hcn]; exact getD_at hm
        rw [hgm] at hnew hkeep
        have q := order_spec own[(cs[(D + (e : Int)).toNat] - 1).toNat] own[i]
        have hle := cmpF_le own[(cs[(D + (e : Int)).toNat] - 1).toNat] own[i]
        obtain ⟨c, hcc⟩ : ∃ c, c = cmpF own[(cs[(D + (e : Int)).toNat] - 1).toNat] own[i] := ⟨_, rfl⟩
        rw [← hcc] at q hle
        have hg2 := getF hm
        refine code_sound (more := more8 false _ _) more8_ok FOK.wide _ ?_
        repeat' ((try conv => whnf); first | (first | refine k3 (fun hb => ?_) fun hb => ?_ | refine k4 (fun hb => ?_) fun hb => ?_) <;> (try rw [List.length_map] at hb) <;> (try (exfalso; omega; done)) | fail)
        refine Wp.draw (more := more8 true _ _) more8_det more8_ok FOK.wide rfl (by decide +kernel) (by conv => lhs; reduce) ?_
        repeat' ((try conv => whnf); first | (first | refine k3 (fun hb => ?_) fun hb => ?_ | refine k4 (fun hb => ?_) fun hb => ?_) <;> (try rw [List.length_map] at hb) <;> (try (exfalso; omega; done)) | refine And.intro rfl ?_ | refine s4 nm ?_ | refine s6 nm nm ?_ | refine And.intro bd ?_ | refine ⟨_, _, getMapN nm, rfl, ?_⟩ | fail)
        refine ⟨_, q, ?_⟩
        repeat' ((try conv => whnf); first | (first | refine k3 (fun hb => ?_) fun hb => ?_ | refine k4 (fun hb => ?_) fun hb => ?_) <;> (try rw [List.length_map] at hb) <;> (try (exfalso; omega; done)) | refine And.intro rfl ?_ | refine s4 nm ?_ | refine And.intro bd ?_ | refine .inl ⟨rfl, rfl, bd, rfl, rfl, ?_⟩ | fail)
        · refine ⟨(e + 1, cs.set (D + (e : Int)).toNat ((i : Int) + 1)), Le.of ?_ ?_ rfl rfl rfl, ⟨by rw [List.length_set]; exact hc, .inr (by simp only; omega), hst _ (hnew (.inr (hle.1 (by assumption))))⟩, by simp only; omega⟩
          · (repeat' (first | exact trivial | refine And.intro ?_ ?_ | exact Or.inl rfl | exact l1 bd | fail))
          · (repeat' (first | exact trivial | refine And.intro ?_ ?_ | refine Exists.intro _ (And.intro rfl ?_) | exact Or.inl rfl | exact rowEq rs | fail))
            all_goals (refine rowEq ?_; rw [List.map_set])
        · refine ⟨(e + 1, cs), Le.of (by (repeat' (first | exact trivial | refine And.intro ?_ ?_ | exact Or.inl rfl | exact l1 bd | fail))) (by (repeat' (first | exact trivial | exact rfl | refine And.intro ?_ ?_ | refine Exists.intro _ (And.intro rfl ?_) | exact Or.inl rfl | fail))) rfl rfl rfl, ⟨hc, .inr (by simp only; omega), inner_step (by omega) hcs (fun _ _ => rfl) (by rw [hgc]; exact hkeep (by rintro (h | h); omega; exact absurd (hle.2 h) (by assumption)))⟩, by simp only; omega⟩
    · refine code_sound (more := more8 false _ _) more8_ok FOK.wide _ ?_
      repeat' ((try conv => whnf); first | (first | refine k3 (fun hb => ?_) fun hb => ?_ | refine k4 (fun hb => ?_) fun hb => ?_) <;> (try rw [List.length_map] at hb) <;> (try (exfalso; omega; done)) | refine s4 nm ?_ | fail)
      refine ⟨(i + 1, cs), Le.of (by (repeat' (first | exact trivial | refine And.intro ?_ ?_ | exact Or.inl rfl | fail))) (by (repeat' (first | exact trivial | exact rfl | refine And.intro ?_ ?_ | fail))) rfl rfl rfl, ⟨hi2, hc, fun x hx => ?_⟩, by simp only; omega⟩
      simp only
      rw [hcs x hx]
      split
      · rfl
      · rw [cnt_out]
        rw [hgi]
        omega
  · have ei : i = own.length := by omega
    subst ei
    refine code_sound (more := more8 false _ _) more8_ok FOK.wide _ ?_
    repeat' ((try conv => whnf); first | (first | refine k3 (fun hb => ?_) fun hb => ?_ | refine k4 (fun hb => ?_) fun hb => ?_) <;> (try rw [List.length_map] at hb) <;> (try (exfalso; omega; done)) | fail)
    refine Wp.loop (fun y : Nat × List Int => ⟨[(7, .loc 7 0 0), (8, .pure (encFs own)), (12, .loc 12 0 0), (59, .int y.1)], [(7, some (.row 1 (cs.map fun x => [PV.int x]))), (12, some (.row 1 (y.2.map fun x => [PV.int x])))], [7, 12]⟩)
      (fun y => y.1 ≤ 1024 ∧ y.2.length = 1024 ∧ ∀ x : Nat, x < y.1 → y.2.getD x 0 = pnt l k kn x) (fun y => 1024 - y.1) (0, List.replicate 1024 0) (Le.of ?_ ?_ rfl rfl rfl) ⟨Nat.zero_le _, List.length_replicate, fun x hx => absurd hx (Nat.not_lt_zero _)⟩ ?_
    · (repeat' (first | exact trivial | refine And.intro ?_ ?_ | exact Or.inl rfl | fail))
    · refine And.intro ?_ (And.intro (rowEq ?_) trivial)
      · (repeat' (first | exact rfl | fail))
      · kernel_rfl
    rintro ⟨d, vs⟩ ⟨hd, hv, hvs⟩
    dsimp only at hd hv hvs ⊢
    by_cases hd2 : d < 1024
    · have hdn : ((d : Nat) : Int).toNat < cs.length := by omega
      have hcd := hcs d hd2
      have hb := cnt_bound own d (i := own.length) (Nat.le_refl _)
      have hgc : cs.getD d 0 = cs[((d : Nat) : Int).toNat] := getD_at hdn
      rw [hgc] at hcd
      have hcb : 0 ≤ cs[((d : Nat) : Int).toNat] ∧ cs[((d : Nat) : Int).toNat] ≤ own.length := by omega
      have hp := hpnt d
      have hvn : ((d : Nat) : Int).toNat < vs.length := by omega
      have hnext : ∀ vs' : List Int, (∀ x : Nat, x ≠ d → vs'.getD x 0 = vs.getD x 0) → vs'.getD d 0 = pnt l k kn d → ∀ x : Nat, x < d + 1 → vs'.getD x 0 = pnt l k kn x := fun vs' h1 h2 x hx => by
        by_cases e : x = d
        · subst e; exact h2
        · rw [h1 x e]; exact hvs x (by omega)
      refine code_sound (more := more8 false _ _) more8_ok FOK.wide _ ?_
      repeat' ((try conv => whnf); first | (first | refine k3 (fun hb => ?_) fun hb => ?_ | refine k4 (fun hb => ?_) fun hb => ?_) <;> (try rw [List.length_map] at hb) <;> (try (exfalso; omega; done)) | refine And.intro rfl ?_ | refine s4 nm ?_ | refine s6 nm nm ?_ | refine And.intro bd ?_ | refine ⟨_, _, getMapN nm, rfl, ?_⟩ | refine .inl ⟨rfl, rfl, bd, rfl, rfl, ?_⟩ | fail)
      · have hm : (cs[((d : Nat) : Int).toNat] - 1).toNat < own.length := by omega
        rw [← hcd, if_pos (by assumption), getD_at hm] at hp
        refine ⟨(d + 1, (vs.set ((d : Nat) : Int).toNat (-1)).set ((d : Nat) : Int).toNat (max own[(cs[((d : Nat) : Int).toNat] - 1).toNat].value (-1))), Le.of ?_ ?_ rfl rfl rfl, ⟨by simp only; omega, by simp only [List.length_set]; exact hv, hnext _ (fun x hx => ?_) ?_⟩, by simp only; omega⟩
        · (repeat' (first | exact trivial | refine And.intro ?_ ?_ | exact Or.inl rfl | fail))
        · (repeat' (first | exact trivial | exact rfl | refine And.intro ?_ ?_ | exact rowEq rs | fail))
          all_goals (refine rowEq ?_; rw [List.map_set, List.map_set])
        · rw [set_getD (by rw [List.length_set]; exact hvn), if_neg (by omega), set_getD hvn, if_neg (by omega)]
        · rw [set_getD (by rw [List.length_set]; exact hvn), if_pos (by omega), hp]
      · rw [← hcd, if_neg (by assumption)] at hp
        refine ⟨(d + 1, vs.set ((d : Nat) : Int).toNat (-1)), Le.of ?_ ?_ rfl rfl rfl, ⟨by simp only; omega, by simp only [List.length_set]; exact hv, hnext _ (fun x hx => ?_) ?_⟩, by simp only; omega⟩
        · (repeat' (first | exact trivial | refine And.intro ?_ ?_ | exact Or.inl rfl | fail))
        · (repeat' (first | exact trivial | exact rfl | refine And.intro ?_ ?_ | exact rowEq rs | fail))
          all_goals (refine rowEq ?_; rw [List.map_set])
        · rw [set_getD hvn, if_neg (by omega)]
        · rw [set_getD hvn, if_pos (by omega), hp]
    · have ed : d = 1024 := by omega
      subst ed
      have evs : vs = pntL l k kn := by
        refine List.ext_getElem (by rw [hv]; simp [pntL]) fun x h1 h2 => ?_
        rw [← getD_at (z := 0) h1, hvs x (by omega)]
        simp [pntL]
      rw [evs]
      refine code_sound (more := more8 false _ _) more8_ok FOK.wide _ ?_
      skip
      exact PSub.refl _
end Go.Proofs.Ytinhhmnnfbeimaa
/- Facts: the spans of days on which two lists of values differ. Conditions: none. -/
namespace Go.Proofs.Ytinhhmnnfbeimaa
open Go.Avc
/-- The spans of the days before n that have a property. -/
def spN (dif : Nat → Bool) : Nat → List (Int × Int)
  | 0 => []
  | n + 1 => if dif n = true then (match (spN dif n).getLast? with
    | some p => if p.2 = n then (spN dif n).dropLast ++ [(p.1, (n : Int) + 1)] else spN dif n ++ [((n : Int), (n : Int) + 1)]
    | none => spN dif n ++ [((n : Int), (n : Int) + 1)]) else spN dif n
theorem spN_no {dif : Nat → Bool} {n : Nat} (h : dif n = false) : spN dif (n + 1) = spN dif n := by simp [spN, h]
theorem spN_to (dif : Nat → Bool) : ∀ (n : Nat) (p : Int × Int), p ∈ spN dif n → 0 ≤ p.1 ∧ p.1 < p.2 ∧ p.2 ≤ n
  | 0, p, h => by cases h
  | n + 1, p, h => by
    have ih := spN_to dif n
    unfold spN at h
    split at h
    · split at h
      · rename_i q hq
        have hqm := List.mem_of_getLast? hq
        split at h
        · rw [List.mem_append, List.mem_singleton] at h
          rcases h with h | rfl
          · have := ih p (List.dropLast_subset _ h); omega
          · have := ih q hqm; simp only; omega
        · rw [List.mem_append, List.mem_singleton] at h
          rcases h with h | rfl
          · have := ih p h; omega
          · simp only; omega
      · rw [List.mem_append, List.mem_singleton] at h
        rcases h with h | rfl
        · have := ih p h; omega
        · simp only; omega
    · have := ih p h; omega
/-- No span ends on this day. -/
def closed (dif : Nat → Bool) (n : Nat) : Prop := ∀ p, (spN dif n).getLast? = some p → p.2 ≠ n
theorem closed_no {dif : Nat → Bool} {n : Nat} (h : dif n = false) : closed dif (n + 1) := fun p hp => by
  rw [spN_no h] at hp
  have := (spN_to dif n p (List.mem_of_getLast? hp)).2.2
  omega
theorem spN_run {dif : Nat → Bool} {f : Nat} (hc : closed dif f) : ∀ {m : Nat}, (∀ j, j < m + 1 → dif (f + j) = true) → spN dif (f + m + 1) = spN dif f ++ [((f : Int), ((f + m + 1 : Nat) : Int))]
  | 0, h => by
    have h0 := h 0 (by omega)
    simp only [Nat.add_zero] at h0 ⊢
    rw [spN, if_pos h0]
    split
    · rename_i p hp
      rw [if_neg (hc p hp)]
      simp
    · simp
  | m + 1, h => by
    have ih := spN_run hc (m := m) fun j hj => h j (by omega)
    have h1 := h (m + 1) (by omega)
    rw [show f + (m + 1) + 1 = (f + m + 1) + 1 by omega, spN, if_pos (by rw [show f + m + 1 = f + (m + 1) by omega]; exact h1), ih]
    simp
theorem spN_run' {dif : Nat → Bool} {d e : Nat} (hc : closed dif d) (h : d < e) (hr : ∀ j, d ≤ j → j < e → dif j = true) : spN dif e = spN dif d ++ [((d : Int), (e : Int))] := by
  have := spN_run hc (m := e - d - 1) fun j hj => hr (d + j) (by omega) (by omega)
  rw [show d + (e - d - 1) + 1 = e by omega] at this
  exact this
def difA (a b : List Int) (d : Nat) : Bool := !decide (a.getD d 0 = b.getD d 0)
def diffF (a b : List Int) : List (Int × Int) := spN (difA a b) 1024
theorem spN_len (dif : Nat → Bool) : ∀ n, (spN dif n).length ≤ n
  | 0 => by simp [spN]
  | n + 1 => by
    have ih := spN_len dif n
    unfold spN
    split
    · split
      · split
        · rw [List.length_append, List.length_dropLast, List.length_singleton]; omega
        · rw [List.length_append, List.length_singleton]; omega
      · rw [List.length_append, List.length_singleton]; omega
    · omega
set_option maxRecDepth 20000
set_option maxHeartbeats 4000000
set_option linter.unusedSimpArgs false
attribute [local irreducible] PSub Wp PSpec Le Need Both
theorem diff_spec (a b : List Int) (ha : a.length = 1024) (hb : b.length = 1024) : PSpec Try.prog 39 [encA a, encA b] (encPts (diffF a b)) := by
  obtain ⟨dif, hdif⟩ : ∃ f, f = difA a b := ⟨_, rfl⟩
  have hd0 : ∀ d, dif d = true ↔ a.getD d 0 ≠ b.getD d 0 := fun d => by rw [hdif]; simp [difA]
  have hres : diffF a b = spN dif 1024 := by rw [hdif]; rfl
  rw [hres]
  refine PSpec.of_vc (fun Γ => more8 false Γ.P Γ.fx) (fun Γ => more8_ok) Try.func39 rfl Try.call39 (by simp) ?_
  rintro ⟨P, N, w0, X, β0, fx, y, hy, pk, df⟩ rfl rfl rfl hoff rfl; change y.on = false at hoff
  skip
  refine Wp.loop (fun d : Nat => ⟨[(0, .pure (encA a)), (1, .pure (encA b)), (4, .lsl 60 0 (spN dif d).length), (5, .int d)], [(60, some (.row 2 ((spN dif d).map encPt)))], [60]⟩) (fun d => d ≤ 1024 ∧ (closed dif d ∨ dif d = false)) (fun d => 1024 - d) 0 (Le.trans (Le.virt (k := 60) (sz := 2) rfl rfl (by omega)) (Le.of ?_ ?_ rfl rfl rfl)) ⟨Nat.zero_le _, .inl fun p hp => by simp [spN] at hp⟩ ?_
  · (repeat' (first | exact trivial | refine And.intro ?_ ?_ | exact Or.inl rfl | exact l6 rfl | fail))
  · (repeat' (first | exact trivial | exact rfl | refine And.intro ?_ ?_ | fail))
  intro d ⟨hd, hcl⟩
  by_cases hd2 : d < 1024
  · have hda : d < a.length := by omega
    have hdb : d < b.length := by omega
    have hdd := hd0 d
    rw [getD_at hda, getD_at hdb] at hdd
    refine code_sound (more := more8 false _ _) more8_ok FOK.wide _ ?_
    repeat' ((try conv => whnf); first | (first | refine k3 (fun hb => ?_) fun hb => ?_ | refine k4 (fun hb => ?_) fun hb => ?_) <;> (try rw [List.length_map] at hb) <;> (try (exfalso; omega; done)) | fail)
    refine Wp.draw (more := more8 true _ _) more8_det more8_ok FOK.wide rfl (by decide +kernel) (by conv => lhs; reduce) ?_
    repeat' ((try conv => whnf); first | (first | refine k3 (fun hb => ?_) fun hb => ?_ | refine k4 (fun hb => ?_) fun hb => ?_) <;> (try rw [List.length_map] at hb) <;> (try (exfalso; omega; done)) | refine And.intro rfl ?_ | refine s4 nm ?_ | refine s5 nm nm ?_ | fail)
    · have h0 : dif d = false := by
        rw [Bool.eq_false_iff]
        intro h
        exact hdd.1 h (by assumption)
      have hn := spN_no h0
      refine ⟨d + 1, Le.of ?_ ?_ rfl rfl rfl, ⟨by omega, .inl (closed_no h0)⟩, by omega⟩
      · rw [hn]; (repeat' (first | exact trivial | refine And.intro ?_ ?_ | exact Or.inl rfl | fail))
      · rw [hn]; (repeat' (first | exact trivial | exact rfl | refine And.intro ?_ ?_ | fail))
    · have h1 : dif d = true := hdd.2 (by assumption)
      have hc : closed dif d := by
        rcases hcl with h | h
        · exact h
        · rw [h1] at h; cases h
      have hlen := spN_len dif d
      refine Wp.loop (fun z : Nat × Int => ⟨[(0, .pure (encA a)), (1, .pure (encA b)), (4, .lsl 60 0 (spN dif d).length), (5, .int z.1), (6, .loc 6 0 0)], [(6, some (.box [.int d, .int z.2])), (60, some (.row 2 ((spN dif d).map encPt)))], [6, 60]⟩)
        (fun z => d ≤ z.1 ∧ z.1 < 1024 ∧ (z.1 = d ∧ z.2 = 0 ∨ d < z.1 ∧ z.2 = z.1) ∧ ∀ j, d ≤ j → j < z.1 → dif j = true) (fun z => 1024 - z.1) (d, 0) (Le.of ?_ ?_ rfl rfl rfl) ⟨Nat.le_refl _, hd2, .inl ⟨rfl, rfl⟩, fun j a1 a2 => by omega⟩ ?_
      · (repeat' (first | exact trivial | refine And.intro ?_ ?_ | exact Or.inl rfl | fail))
      · (repeat' (first | exact trivial | exact rfl | refine And.intro ?_ ?_ | refine Exists.intro _ (And.intro rfl ?_) | exact Or.inl rfl | fail))
      rintro ⟨e, t⟩ ⟨he1, he2, het, her⟩
      dsimp only at he1 he2 het her ⊢
      have hea : e < a.length := by omega
      have heb : e < b.length := by omega
      have hde := hd0 e
      rw [getD_at hea, getD_at heb] at hde
      refine code_sound (more := more8 false _ _) more8_ok FOK.wide _ ?_
      skip
      refine Wp.draw (more := more8 true _ _) more8_det more8_ok FOK.wide rfl (by decide +kernel) (by conv => lhs; reduce) ?_
      repeat' ((try conv => whnf); first | (first | refine k3 (fun hb => ?_) fun hb => ?_ | refine k4 (fun hb => ?_) fun hb => ?_) <;> (try rw [List.length_map] at hb) <;> (try (exfalso; omega; done)) | refine And.intro rfl ?_ | refine s4 nm ?_ | refine s5 nm nm ?_ | refine And.intro bd ?_ | fail)
      · have hne : dif e = false := by
          rw [Bool.eq_false_iff]
          intro h
          exact hde.1 h (by assumption)
        have hlt : d < e ∧ t = e := by
          rcases het with ⟨rfl, _⟩ | h
          · rw [h1] at hne; cases hne
          · exact h
        have hrun := spN_run' hc hlt.1 her
        obtain ⟨hlt, rfl⟩ := hlt
        refine ⟨e, Le.map [(60, 48)] ?_ ?_ rfl rfl rfl rfl, ⟨by omega, .inr hne⟩, by omega⟩
        · rw [hrun]
          (repeat' (first | exact trivial | refine And.intro ?_ ?_ | exact Or.inl rfl | exact SubA.lsl ls | fail))
          all_goals first
            | (refine SubA.lsl ?_; focus (simp; done))
            | (refine rowEq ?_; focus (first | exact (List.map_append ..).symm | exact List.map_append .. | (simp; done) | (rw [List.map_append]; rfl)))
        · rw [hrun]
          (repeat' (first | exact trivial | refine And.intro ?_ ?_ | fail))
          all_goals first
            | (refine SubA.lsl ?_; focus (simp; done))
            | (refine rowEq ?_; focus (first | exact (List.map_append ..).symm | exact List.map_append .. | (simp; done) | (rw [List.map_append]; rfl)))
      · have hrun := spN_run' (e := e + 1) hc (by omega) (fun j a1 a2 => by
          by_cases ej : j = e
          · subst ej; exact hde.2 (by assumption)
          · exact her j a1 (by omega))
        have e24 : e + 1 = 1024 := by omega
        rw [e24] at hrun
        rw [hrun]
        refine sub_sl ?_
        rw [List.drop_zero, List.take_of_length_le (by simp), List.map_append]
        have e25 : (e : Int) + 1 = ((1024 : Nat) : Int) := by omega
        rw [e25]
        rfl
      · refine ⟨(e + 1, (e : Int) + 1), Le.of (by (repeat' (first | exact trivial | refine And.intro ?_ ?_ | exact Or.inl rfl | fail))) (by (repeat' (first | exact trivial | exact rfl | refine And.intro ?_ ?_ | refine Exists.intro _ (And.intro rfl ?_) | exact Or.inl rfl | fail))) rfl rfl rfl, ⟨by simp only; omega, by simp only; omega, .inr ⟨by simp only; omega, by simp only; omega⟩, fun j a1 a2 => ?_⟩, by simp only; omega⟩
        simp only at a1 a2
        by_cases ej : j = e
        · subst ej; exact hde.2 (by assumption)
        · exact her j a1 (by omega)
  · have e : d = 1024 := by omega
    subst e
    refine code_sound (more := more8 false _ _) more8_ok FOK.wide _ ?_
    skip
    exact sub_sl (by rw [List.drop_zero, List.take_of_length_le (by simp)])
end Go.Proofs.Ytinhhmnnfbeimaa
