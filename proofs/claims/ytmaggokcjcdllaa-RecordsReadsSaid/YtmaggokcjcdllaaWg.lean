/- Facts: keys, facts and reads are compared; what is known about a key on a day. Conditions: none. -/
import Derived.Test.YtmaggokcjcdllaaWd
import Derived.Test.YtmaggokcjcdllaaWf
set_option linter.unusedSimpArgs false
set_option linter.unusedVariables false
namespace Go.Proofs.Ytmaggokcjcdllaa
open Go.Avc
theorem isAg {cs : List AV} : ∃ c, AV.agg cs = .agg c ∨ ∃ d, AV.agg cs = .pure (.agg d) ∧ c = pures d := ⟨_, .inl rfl⟩
theorem isAp {ps : List PV} : ∃ c, AV.pure (.agg ps) = .agg c ∨ ∃ d, AV.pure (.agg ps) = .pure (.agg d) ∧ c = pures d := ⟨_, .inr ⟨_, rfl, rfl⟩⟩
def vKy (k : Ky) : List Value := [.int .i64 k.kind, .int .i64 k.subj, .int .i64 k.obj]
def vFa (f : Fa) : List Value := [.int .i64 f.key.kind, .int .i64 f.key.subj, .int .i64 f.key.obj, .int .i64 f.value, .int .i64 f.lo, .int .i64 f.hi, .int .i64 f.known, .int .i64 f.no]
theorem kyEq (a b : Ky) : aggEq Try.prog 46 (vKy a).toArray (vKy b).toArray (decide (a = b)) :=
  structEq (d := 3) (ls := [.i .i64, .i .i64, .i .i64]) (by kernel_rfl) (by omega) (by kernel_rfl) (xs := vKy a) (ys := vKy b) ⟨rfl, rfl, rfl, trivial⟩ ⟨rfl, rfl, rfl, trivial⟩ (by
    obtain ⟨a1, a2, a3⟩ := a; obtain ⟨b1, b2, b3⟩ := b
    simp [vKy])
theorem faEq (a b : Fa) : aggEq Try.prog 75 (vFa a).toArray (vFa b).toArray (decide (a = b)) :=
  structEq (d := 3) (ls := [.i .i64, .i .i64, .i .i64, .i .i64, .i .i64, .i .i64, .i .i64, .i .i64]) (by kernel_rfl) (by omega) (by kernel_rfl) (xs := vFa a) (ys := vFa b) ⟨rfl, rfl, rfl, rfl, rfl, rfl, rfl, rfl, trivial⟩ ⟨rfl, rfl, rfl, rfl, rfl, rfl, rfl, rfl, trivial⟩ (by
    obtain ⟨⟨a1, a2, a3⟩, a4, a5, a6, a7, a8⟩ := a; obtain ⟨⟨b1, b2, b3⟩, b4, b5, b6, b7, b8⟩ := b
    simp [vFa, and_assoc])
structure Rd where
  key : Ky
  lo : Int
  hi : Int
deriving DecidableEq
def encRd (r : Rd) : List PV := [.int r.key.kind, .int r.key.subj, .int r.key.obj, .int r.lo, .int r.hi]
def encRds (l : List Rd) : PV := .sl 5 (l.map encRd)
def vRd (r : Rd) : List Value := [.int .i64 r.key.kind, .int .i64 r.key.subj, .int .i64 r.key.obj, .int .i64 r.lo, .int .i64 r.hi]
theorem rdEq (a b : Rd) : aggEq Try.prog 80 (vRd a).toArray (vRd b).toArray (decide (a = b)) :=
  structEq (d := 3) (ls := [.i .i64, .i .i64, .i .i64, .i .i64, .i .i64]) (by kernel_rfl) (by omega) (by kernel_rfl) (xs := vRd a) (ys := vRd b) ⟨rfl, rfl, rfl, rfl, rfl, trivial⟩ ⟨rfl, rfl, rfl, rfl, rfl, trivial⟩ (by
    obtain ⟨⟨a1, a2, a3⟩, a4, a5⟩ := a; obtain ⟨⟨b1, b2, b3⟩, b4, b5⟩ := b
    simp [vRd, and_assoc])
theorem eq_at {α : Type} {a b : List α} (hl : a.length = b.length) (h : ∀ j (h1 : j < a.length) (h2 : j < b.length), a[j] = b[j]) : a = b := List.ext_getElem hl h
set_option maxRecDepth 20000
set_option maxHeartbeats 4000000
set_option linter.unusedSimpArgs false
attribute [local irreducible] PSub Wp PSpec Le Need Both
theorem sameR_spec (a b : List Rd) (ha : a.length ≤ 1000000) (hb : b.length ≤ 1000000) : PSpec Try.prog 15 [encRds a, encRds b] (.bool (decide (a = b))) := by
    have hlb : (b.map encRd).length = b.length := List.length_map ..
    have hla : (a.map encRd).length = a.length := List.length_map ..
    by_cases hl : a.length = b.length
    · refine PSpec.of_vc (fun Γ => more8 false Γ.P Γ.fx) (fun Γ => more8_ok) Try.func15 rfl Try.call15 (by simp) ?_
      rintro ⟨P, N, w0, X, β0, fx, y, hy, pk, df⟩ rfl rfl rfl hoff rfl; change y.on = false at hoff
      repeat' ((try conv => whnf); first | (first | refine k3 (fun hb => ?_) fun hb => ?_ | refine k4 (fun hb => ?_) fun hb => ?_) <;> (try rw [List.length_map] at hb) <;> (try (exfalso; omega; done)) | fail)
      refine Wp.loop (fun k : Nat => ⟨[(0, .pure (.sl 5 (a.map encRd))), (1, .pure (.sl 5 (b.map encRd))), (5, .int k)], [], []⟩) (fun k => k ≤ a.length ∧ ∀ j (h1 : j < a.length) (h2 : j < b.length), j < k → a[j] = b[j]) (fun k => a.length - k) 0 (Le.of ?_ ?_ rfl rfl rfl) ⟨by omega, fun j _ _ h => by omega⟩ ?_
      · (repeat' (first | exact trivial | refine And.intro ?_ ?_ | exact Or.inl rfl | fail))
      · (repeat' (first | exact trivial | fail))
      intro k ⟨hk, ho⟩
      by_cases hk2 : k < a.length
      · have hk3 : k < b.length := by omega
        have q := rdEq a[k] b[k]
        by_cases hp : a[k] = b[k]
        · rw [decide_eq_true hp] at q
          refine code_sound (more := more8 false _ _) more8_ok FOK.wide _ ?_
          repeat' ((try conv => whnf); first | (first | refine k3 (fun hb => ?_) fun hb => ?_ | refine k4 (fun hb => ?_) fun hb => ?_) <;> (try rw [List.length_map] at hb) <;> (try (exfalso; omega; done)) | fail)
          refine Wp.draw (more := more8 true _ _) more8_det more8_ok FOK.wide rfl (by decide +kernel) (by conv => lhs; reduce) ?_
          repeat' ((try conv => whnf); first | refine s5 nm nm ?_ | fail)
          refine ⟨_, q, by first | exact isAg | exact isAp, by first | exact isAg | exact isAp, ?_⟩
          repeat' ((try conv => whnf); first | refine s4 nm ?_ | fail)
          refine ⟨k + 1, Le.of (by (repeat' (first | exact trivial | refine And.intro ?_ ?_ | exact Or.inl rfl | fail))) (by (repeat' (first | exact trivial | fail))) rfl rfl rfl, ⟨by omega, fun j h1 h2 hjk => ?_⟩, by omega⟩
          by_cases e : j = k
          · subst e; exact hp
          · exact ho j h1 h2 (by omega)
        · rw [decide_eq_false hp] at q
          have hne : a ≠ b := fun h => hp (by subst h; rfl)
          rw [decide_eq_false hne]
          refine code_sound (more := more8 false _ _) more8_ok FOK.wide _ ?_
          repeat' ((try conv => whnf); first | (first | refine k3 (fun hb => ?_) fun hb => ?_ | refine k4 (fun hb => ?_) fun hb => ?_) <;> (try rw [List.length_map] at hb) <;> (try (exfalso; omega; done)) | fail)
          refine Wp.draw (more := more8 true _ _) more8_det more8_ok FOK.wide rfl (by decide +kernel) (by conv => lhs; reduce) ?_
          repeat' ((try conv => whnf); first | refine s5 nm nm ?_ | fail)
          refine ⟨_, q, by first | exact isAg | exact isAp, by first | exact isAg | exact isAp, ?_⟩
          skip
          exact PSub.refl _
      · have e : a = b := eq_at hl fun j h1 h2 => ho j h1 h2 (by omega)
        rw [decide_eq_true e]
        refine code_sound (more := more8 false _ _) more8_ok FOK.wide _ ?_
        repeat' ((try conv => whnf); first | (first | refine k3 (fun hb => ?_) fun hb => ?_ | refine k4 (fun hb => ?_) fun hb => ?_) <;> (try rw [List.length_map] at hb) <;> (try (exfalso; omega; done)) | fail)
        exact PSub.refl _
    · have hne : a ≠ b := fun h => hl (by rw [h])
      rw [decide_eq_false hne]
      refine PSpec.of_vc (fun Γ => more8 false Γ.P Γ.fx) (fun Γ => more8_ok) Try.func15 rfl Try.call15 (by simp) ?_
      rintro ⟨P, N, w0, X, β0, fx, y, hy, pk, df⟩ rfl rfl rfl hoff rfl; change y.on = false at hoff
      repeat' ((try conv => whnf); first | (first | refine k3 (fun hb => ?_) fun hb => ?_ | refine k4 (fun hb => ?_) fun hb => ?_) <;> (try rw [List.length_map] at hb) <;> (try (exfalso; omega; done)) | fail)
      exact PSub.refl _
end Go.Proofs.Ytmaggokcjcdllaa
/- Facts: what is known about a key on a day. Conditions: none. -/
namespace Go.Proofs.Ytmaggokcjcdllaa
open Go.Avc
def abt (k : Ky) (kn : Int) (f : Fa) : Bool := decide (f.key = k) && decide (f.known ≤ kn)
def abtF (l : List Fa) (k : Ky) (kn : Int) : List Fa := l.filter (abt k kn)
def facRows (l : List Fa) : List (List PV) := l.map fun f => [.agg (encFa f)]
theorem abt_take {l : List Fa} {k : Ky} {kn : Int} {i : Nat} (h : i < l.length) : abtF (l.take (i + 1)) k kn = if abt k kn l[i] then abtF (l.take i) k kn ++ [l[i]] else abtF (l.take i) k kn := by
  unfold abtF
  rw [List.take_succ_eq_append_getElem h, List.filter_append]
  by_cases e : abt k kn l[i] = true <;> simp [e]
theorem abt_at {l : List Fa} {k : Ky} {kn : Int} {i : Nat} (h : i < l.length) (hp : abt k kn l[i] = true) : (facRows (abtF l k kn))[(abtF (l.take i) k kn).length]? = some [.agg (encFa l[i])] := by
  have e : abtF l k kn = abtF (l.take i) k kn ++ (l[i] :: abtF (l.drop (i + 1)) k kn) := by
    have e0 : l = l.take i ++ l[i] :: l.drop (i + 1) := by rw [← List.drop_eq_getElem_cons h, List.take_append_drop]
    unfold abtF
    have e2 : ([l[i]].filter (abt k kn)) = [l[i]] := by simp [hp]
    calc l.filter (abt k kn) = (l.take i ++ l[i] :: l.drop (i + 1)).filter (abt k kn) := congrArg _ e0
      _ = _ := by rw [List.filter_append, show l[i] :: l.drop (i + 1) = [l[i]] ++ l.drop (i + 1) from rfl, List.filter_append, e2]; rfl
  rw [e]
  simp [facRows]
/-- This fact counts beside the one that counted. -/
def newer (b : Option Fa) (f : Fa) : Bool := match b with
  | none => true
  | some x => !decide (f.bef x)
/-- One more fact is looked at. -/
def pickF (day : Int) (b : Option Fa) (f : Fa) : Option Fa := if f.lo ≤ day ∧ day < f.hi ∧ newer b f = true then some f else b
theorem pickF_no {day : Int} {b : Option Fa} {f : Fa} (h : ¬ (f.lo ≤ day ∧ day < f.hi)) : pickF day b f = b := by
  unfold pickF; rw [if_neg fun h' => h ⟨h'.1, h'.2.1⟩]
theorem pickF_none {day : Int} {f : Fa} (h : f.lo ≤ day ∧ day < f.hi) : pickF day none f = some f := by
  unfold pickF; rw [if_pos ⟨h.1, h.2, rfl⟩]
theorem pickF_yes {day : Int} {x f : Fa} (h : f.lo ≤ day ∧ day < f.hi) (hb : ¬ f.bef x) : pickF day (some x) f = some f := by
  unfold pickF; rw [if_pos ⟨h.1, h.2, by simp [newer, hb]⟩]
theorem pickF_keep {day : Int} {x f : Fa} (hb : f.bef x) : pickF day (some x) f = some x := by
  unfold pickF; rw [if_neg fun h' => by simp [newer, hb] at h']
def bestF (l : List Fa) (k : Ky) (day kn : Int) : Option Fa := (abtF l k kn).foldl (pickF day) none
def valF (b : Option Fa) : Int × Bool := match b with
  | some f => if f.value < 0 then (0, false) else (f.value, true)
  | none => (0, false)
def atF (l : List Fa) (k : Ky) (day kn : Int) : Int × Bool := valF (bestF l k day kn)
def encIB (x : Int × Bool) : PV := .tup [.int x.1, .bool x.2]
def zeroFa : Fa := ⟨⟨0, 0, 0⟩, 0, 0, 0, 0, 0⟩
set_option maxRecDepth 20000
set_option maxHeartbeats 4000000
set_option linter.unusedSimpArgs false
attribute [local irreducible] PSub Wp PSpec Le Need Both
attribute [local irreducible] Fa.bef
theorem about_spec (l : List Fa) (k : Ky) (kn : Int) : PSpec Try.prog 52 [encFs l, .agg (encKy k), .int kn] (.fn 70 [.ptr [encFs l], .ptr (encKy k), .ptr [.int kn]]) := by
  refine PSpec.of_vc (fun Γ => more8 false Γ.P Γ.fx) (fun Γ => more8_ok) Try.func52 rfl Try.call52 (by simp) ?_
  rintro ⟨P, N, w0, X, β0, fx, y, hy, pk, df⟩ rfl rfl rfl hoff rfl; change y.on = false at hoff
  skip
  exact PSub.refl _
theorem about1_spec (l : List Fa) (k : Ky) (kn : Int) (hl : l.length ≤ 1000000) : ISpec Try.prog 70 [.ptr [encFs l], .ptr (encKy k), .ptr [.int kn]] (facRows (abtF l k kn)) := by
  refine ISpec.of_vc (fun Γ => more8 false Γ.P Γ.fx) (fun Γ => more8_ok) Try.func70 rfl Try.call70 (Nat.le_of_ble_eq_true rfl) rfl ?_
  rintro ⟨P, N, w0, X, β0, fx, y, hy, pk, df⟩ rfl rfl rfl rfl hon hxs
  dsimp only at hon hxs
  skip
  refine Wp.loop (fun i : Nat => ⟨[(0, .pure (.val (.func (.yield y.l) #[] #[]))), (2, .pure (.ptr (encKy k))), (3, .pure (.ptr [.int kn])), (7, .pure (encFs l)), (8, .int l.length), (9, .int i), (30, .gh (abtF (l.take i) k kn).length false)], [], []⟩) (fun i => i ≤ l.length) (fun i => l.length - i) 0 (Le.of ?_ ?_ rfl rfl rfl) (by omega) ?_
  · (repeat' (first | exact trivial | refine And.intro ?_ ?_ | exact Or.inl rfl | exact l1 bd | fail))
  · (repeat' (first | exact trivial | fail))
  intro i hi
  by_cases hi2 : i < l.length
  · have ht := abt_take (k := k) (kn := kn) hi2
    have q := kyEq l[i].key k
    by_cases hp : abt k kn l[i] = true
    · rw [if_pos hp] at ht
      have hrow := abt_at hi2 hp
      have hp' := hp
      unfold abt at hp'
      rw [Bool.and_eq_true, decide_eq_true_eq, decide_eq_true_eq] at hp'
      rw [decide_eq_true hp'.1] at q
      have hkn := hp'.2
      refine code_sound (more := more8 false _ _) more8_ok FOK.wide _ ?_
      repeat' ((try conv => whnf); first | (first | refine k3 (fun hb => ?_) fun hb => ?_ | refine k4 (fun hb => ?_) fun hb => ?_) <;> (try rw [List.length_map] at hb) <;> (try (exfalso; omega; done)) | refine And.intro rfl ?_ | refine s5 nm nm ?_ | fail)
      refine ⟨_, q, by first | exact isAg | exact isAp, by first | exact isAg | exact isAp, ?_⟩
      repeat' ((try conv => whnf); first | (first | refine k3 (fun hb => ?_) fun hb => ?_ | refine k4 (fun hb => ?_) fun hb => ?_) <;> (try rw [List.length_map] at hb) <;> (try (exfalso; omega; done)) | refine And.intro rfl ?_ | refine And.intro bd ?_ | fail)
      refine needY (i := (abtF (l.take i) k kn).length) hxs hrow ⟨PSub.refl _, trivial⟩ ?_
      repeat' ((try conv => whnf); first | refine Both.intro ?_ ?_ | refine s4 nm ?_ | fail)
      · refine ⟨i + 1, Le.of ?_ (by (repeat' (first | exact trivial | fail))) rfl rfl rfl, by omega, by omega⟩
        rw [ht, List.length_append]
        (repeat' (first | exact trivial | refine And.intro ?_ ?_ | exact Or.inl rfl | fail))
      · exact ⟨(abtF (l.take i) k kn).length + 1, true, rfl, by simp⟩
    · rw [if_neg hp] at ht
      have hp' := hp
      unfold abt at hp'
      by_cases hk : l[i].key = k
      · rw [decide_eq_true hk] at q
        rw [decide_eq_true hk, Bool.true_and, decide_eq_true_eq] at hp'
        refine code_sound (more := more8 false _ _) more8_ok FOK.wide _ ?_
        repeat' ((try conv => whnf); first | (first | refine k3 (fun hb => ?_) fun hb => ?_ | refine k4 (fun hb => ?_) fun hb => ?_) <;> (try rw [List.length_map] at hb) <;> (try (exfalso; omega; done)) | refine And.intro rfl ?_ | refine s5 nm nm ?_ | fail)
        refine ⟨_, q, by first | exact isAg | exact isAp, by first | exact isAg | exact isAp, ?_⟩
        repeat' ((try conv => whnf); first | (first | refine k3 (fun hb => ?_) fun hb => ?_ | refine k4 (fun hb => ?_) fun hb => ?_) <;> (try rw [List.length_map] at hb) <;> (try (exfalso; omega; done)) | refine s4 nm ?_ | fail)
        refine ⟨i + 1, Le.of ?_ (by (repeat' (first | exact trivial | fail))) rfl rfl rfl, by omega, by omega⟩
        rw [ht]
        (repeat' (first | exact trivial | refine And.intro ?_ ?_ | exact Or.inl rfl | fail))
      · rw [decide_eq_false hk] at q
        refine code_sound (more := more8 false _ _) more8_ok FOK.wide _ ?_
        repeat' ((try conv => whnf); first | (first | refine k3 (fun hb => ?_) fun hb => ?_ | refine k4 (fun hb => ?_) fun hb => ?_) <;> (try rw [List.length_map] at hb) <;> (try (exfalso; omega; done)) | refine And.intro rfl ?_ | refine s5 nm nm ?_ | fail)
        refine ⟨_, q, by first | exact isAg | exact isAp, by first | exact isAg | exact isAp, ?_⟩
        repeat' ((try conv => whnf); first | refine s4 nm ?_ | fail)
        refine ⟨i + 1, Le.of ?_ (by (repeat' (first | exact trivial | fail))) rfl rfl rfl, by omega, by omega⟩
        rw [ht]
        (repeat' (first | exact trivial | refine And.intro ?_ ?_ | exact Or.inl rfl | fail))
  · refine code_sound (more := more8 false _ _) more8_ok FOK.wide _ ?_
    repeat' ((try conv => whnf); first | (first | refine k3 (fun hb => ?_) fun hb => ?_ | refine k4 (fun hb => ?_) fun hb => ?_) <;> (try rw [List.length_map] at hb) <;> (try (exfalso; omega; done)) | fail)
    exact ⟨(abtF (l.take i) k kn).length, false, rfl, fun _ => by simp [facRows, show i = l.length by omega]⟩
theorem pick_cases (day : Int) (b : Option Fa) (f : Fa) : (¬ (f.lo ≤ day ∧ day < f.hi) ∧ pickF day b f = b) ∨ (f.lo ≤ day ∧ day < f.hi) ∧ ((b = none ∧ pickF day b f = some f) ∨ (∃ x, b = some x ∧ ¬ f.bef x ∧ pickF day b f = some f) ∨ (∃ x, b = some x ∧ f.bef x ∧ pickF day b f = b)) := by
  by_cases h : f.lo ≤ day ∧ day < f.hi
  · refine .inr ⟨h, ?_⟩
    cases b with
    | none => exact .inl ⟨rfl, pickF_none h⟩
    | some x =>
      by_cases hb : f.bef x
      · exact .inr (.inr ⟨x, rfl, hb, pickF_keep hb⟩)
      · exact .inr (.inl ⟨x, rfl, hb, pickF_yes h hb⟩)
  · exact .inl ⟨h, pickF_no h⟩
theorem at_spec (L : List Fa) (κ : Ky) (day kn : Int) (hl : L.length ≤ 1000000) : PSpec Try.prog 25 [encFs L, .agg (encKy κ), .int day, .int kn] (encIB (atF L κ day kn)) := by
  have hI := about1_spec L κ kn hl
  obtain ⟨xs, hxs⟩ : ∃ xs, xs = abtF L κ kn := ⟨_, rfl⟩
  have hlen : (facRows xs).length = xs.length := by simp [facRows]
  have hat : atF L κ day kn = valF (xs.foldl (pickF day) none) := by rw [atF, bestF, hxs]
  rw [← hxs] at hI
  rw [hat]
  refine PSpec.of_vc (fun Γ => more8 false Γ.P Γ.fx) (fun Γ => more8_ok) Try.func25 rfl Try.call25 (by simp) ?_
  rintro ⟨P, N, w0, X, β0, fx, y, hy, pk, df⟩ rfl rfl rfl hoff rfl; change y.on = false at hoff
  repeat' ((try conv => whnf); first | refine And.intro rfl ?_ | fail)
  refine .inl ⟨_, about_spec L κ kn, ?_⟩
  repeat' ((try conv => whnf); first | refine And.intro rfl ?_ | fail)
  refine Wp.rangeFunc hI [(5, .loc 5 0 0), (6, .loc 6 0 0), (10, .loc 10 0 0), (11, .loc 11 0 0), (8, .int 0), (9, .bool false), (16, .pure (.fn 70 [.ptr [encFs L], .ptr (encKy κ), .ptr [.int kn]]))]
    (fun i => [(5, some (.box (pures (encKy κ)))), (6, some (.box [.int day])), (10, some (.box (pures (encFa (((xs.take i).foldl (pickF day) none).getD zeroFa))))), (11, some (.box [.bool (((xs.take i).foldl (pickF day) none).isSome)]))]) (fun _ => [5, 6, 10, 11]) [5, 6, 10, 11]
    (fun _ => True)
    (Le.of ?_ ?_ rfl rfl rfl) rfl hoff trivial rfl rfl (fun _ => rfl) rfl (fun i row hrow => ?_) ?_ ?_
  · (repeat' (first | exact trivial | refine And.intro ?_ ?_ | exact Or.inl rfl | fail))
  · (repeat' (first | exact trivial | refine And.intro ?_ ?_ | refine Exists.intro _ (And.intro rfl ?_) | exact Or.inl rfl | fail))
  · simp only [facRows, List.getElem?_map, Option.map_eq_some_iff] at hrow
    obtain ⟨w, _, rfl⟩ := hrow
    rfl
  · rintro ⟨P1, N1, w1, X1, β1, fx1, y1, hy1, pk1, df1⟩ rfl rfl rfl hoff1 rfl l k row hrow hok; change y1.on = false at hoff1
    have hk : k < xs.length := by have := (List.getElem?_eq_some_iff.1 hrow).1; simpa [facRows] using this
    rw [facRows, List.getElem?_map, List.getElem?_eq_getElem hk] at hrow
    cases hrow
    have hstep : ((xs.take (k + 1)).foldl (pickF day) none) = pickF day ((xs.take k).foldl (pickF day) none) xs[k] := by
      rw [List.take_succ_eq_append_getElem hk, List.foldl_append]; rfl
    obtain ⟨b, hb⟩ : ∃ b, b = (xs.take k).foldl (pickF day) none := ⟨_, rfl⟩
    obtain ⟨f, hf⟩ : ∃ f, f = xs[k] := ⟨_, rfl⟩
    rw [← hb, ← hf] at hstep
    rw [← hb, ← hf]
    have hpick := pick_cases day b f
    rcases hpick with ⟨hno, he⟩ | ⟨hin, ⟨rfl, he⟩ | ⟨x, rfl, hx, he⟩ | ⟨x, rfl, hx, he⟩⟩
    · rw [he] at hstep
      refine code_sound (more := more8 false _ _) more8_ok (FOK.inRound _) _ ?_
      repeat' ((try conv => whnf); first | refine And.intro rfl ?_ | fail)
      rintro ⟨P2, N2, w2, X2, β2, fx2, y2, hy2, pk2, df2⟩ rfl rfl rfl hoff2 rfl; change y2.on = false at hoff2
      refine code_sound (more := more8 false _ _) more8_ok (FOK.inRound _) _ ?_
      repeat' ((try conv => whnf); first | (first | refine k3 (fun hb => ?_) fun hb => ?_ | refine k4 (fun hb => ?_) fun hb => ?_) <;> (try rw [List.length_map] at hb) <;> (try (exfalso; omega; done)) | refine Both.intro ?_ ?_ | fail)
      all_goals first | exact trivial | (simp only [hstep]; exact Le.of trivial (by (repeat' (first | exact trivial | refine And.intro ?_ ?_ | refine Exists.intro _ (And.intro rfl ?_) | exact Or.inl rfl | fail))) rfl rfl rfl)
    · rw [he] at hstep
      refine code_sound (more := more8 false _ _) more8_ok (FOK.inRound _) _ ?_
      repeat' ((try conv => whnf); first | refine And.intro rfl ?_ | fail)
      rintro ⟨P2, N2, w2, X2, β2, fx2, y2, hy2, pk2, df2⟩ rfl rfl rfl hoff2 rfl; change y2.on = false at hoff2
      refine code_sound (more := more8 false _ _) more8_ok (FOK.inRound _) _ ?_
      repeat' ((try conv => whnf); first | (first | refine k3 (fun hb => ?_) fun hb => ?_ | refine k4 (fun hb => ?_) fun hb => ?_) <;> (try rw [List.length_map] at hb) <;> (try (exfalso; omega; done)) | refine Both.intro ?_ ?_ | refine And.intro rfl ?_ | fail)
      all_goals first | exact trivial | (simp only [hstep]; exact Le.of trivial (by (repeat' (first | exact trivial | refine And.intro ?_ ?_ | refine Exists.intro _ (And.intro rfl ?_) | exact Or.inl rfl | fail))) rfl rfl rfl)
    · rw [he] at hstep
      have q := order_spec x f
      have hle := cmpF_le x f
      obtain ⟨c, hc⟩ : ∃ c, c = cmpF x f := ⟨_, rfl⟩
      rw [← hc] at q hle
      have hc0 : c ≤ 0 := hle.2 hx
      refine code_sound (more := more8 false _ _) more8_ok (FOK.inRound _) _ ?_
      repeat' ((try conv => whnf); first | refine And.intro rfl ?_ | fail)
      rintro ⟨P2, N2, w2, X2, β2, fx2, y2, hy2, pk2, df2⟩ rfl rfl rfl hoff2 rfl; change y2.on = false at hoff2
      refine code_sound (more := more8 false _ _) more8_ok (FOK.inRound _) _ ?_
      repeat' ((try conv => whnf); first | (first | refine k3 (fun hb => ?_) fun hb => ?_ | refine k4 (fun hb => ?_) fun hb => ?_) <;> (try rw [List.length_map] at hb) <;> (try (exfalso; omega; done)) | fail)
      refine .inl ⟨_, q, ?_⟩
      repeat' ((try conv => whnf); first | (first | refine k3 (fun hb => ?_) fun hb => ?_ | refine k4 (fun hb => ?_) fun hb => ?_) <;> (try rw [List.length_map] at hb) <;> (try (exfalso; omega; done)) | refine Both.intro ?_ ?_ | refine And.intro rfl ?_ | fail)
      all_goals first | exact trivial | (simp only [hstep]; exact Le.of trivial (by (repeat' (first | exact trivial | refine And.intro ?_ ?_ | refine Exists.intro _ (And.intro rfl ?_) | exact Or.inl rfl | fail))) rfl rfl rfl)
    · rw [he] at hstep
      have q := order_spec x f
      have hle := cmpF_le x f
      obtain ⟨c, hc⟩ : ∃ c, c = cmpF x f := ⟨_, rfl⟩
      rw [← hc] at q hle
      have hc0 : ¬ c ≤ 0 := fun h => hle.1 h hx
      refine code_sound (more := more8 false _ _) more8_ok (FOK.inRound _) _ ?_
      repeat' ((try conv => whnf); first | refine And.intro rfl ?_ | fail)
      rintro ⟨P2, N2, w2, X2, β2, fx2, y2, hy2, pk2, df2⟩ rfl rfl rfl hoff2 rfl; change y2.on = false at hoff2
      refine code_sound (more := more8 false _ _) more8_ok (FOK.inRound _) _ ?_
      repeat' ((try conv => whnf); first | (first | refine k3 (fun hb => ?_) fun hb => ?_ | refine k4 (fun hb => ?_) fun hb => ?_) <;> (try rw [List.length_map] at hb) <;> (try (exfalso; omega; done)) | fail)
      refine .inl ⟨_, q, ?_⟩
      repeat' ((try conv => whnf); first | (first | refine k3 (fun hb => ?_) fun hb => ?_ | refine k4 (fun hb => ?_) fun hb => ?_) <;> (try rw [List.length_map] at hb) <;> (try (exfalso; omega; done)) | refine Both.intro ?_ ?_ | fail)
      all_goals first | exact trivial | (simp only [hstep]; exact Le.of trivial (by (repeat' (first | exact trivial | refine And.intro ?_ ?_ | refine Exists.intro _ (And.intro rfl ?_) | exact Or.inl rfl | fail))) rfl rfl rfl)
  · intro _
    rw [hlen, List.take_of_length_le (Nat.le_refl _)]
    obtain ⟨b, hb⟩ : ∃ b, b = xs.foldl (pickF day) none := ⟨_, rfl⟩
    rw [← hb]
    cases b with
    | none =>
      skip
      exact PSub.refl _
    | some f =>
      have e1 : ((some f).getD zeroFa).value < 0 → valF (some f) = (0, false) := fun h => by unfold valF; exact if_pos h
      have e2 : ¬ ((some f).getD zeroFa).value < 0 → valF (some f) = (f.value, true) := fun h => by unfold valF; exact if_neg h
      obtain ⟨r, hr⟩ : ∃ r, r = valF (some f) := ⟨_, rfl⟩
      rw [← hr] at e1 e2 ⊢
      repeat' ((try conv => whnf); first | (first | refine k3 (fun hb => ?_) fun hb => ?_ | refine k4 (fun hb => ?_) fun hb => ?_) <;> (try rw [List.length_map] at hb) <;> (try (exfalso; omega; done)) | fail)
      all_goals first | (rw [e1 (by assumption)]; exact PSub.refl _) | (rw [e2 (by assumption)]; exact PSub.refl _)
/-- The index of the fact that counts, among the first i. -/
def IdxF (l : List Fa) (k : Ky) (day kn : Int) (i : Nat) (r : Int) : Prop := (r = -1 ∧ bestF (l.take i) k day kn = none) ∨ ∃ n : Nat, r = n ∧ ∃ h : n < l.length, n < i ∧ bestF (l.take i) k day kn = some l[n]
theorem IdxF.skip {l : List Fa} {k : Ky} {day kn : Int} {i : Nat} {r : Int} (h : IdxF l k day kn i r) (hi : i < l.length) (he : bestF (l.take (i + 1)) k day kn = bestF (l.take i) k day kn) : IdxF l k day kn (i + 1) r := by
  rcases h with ⟨h1, h2⟩ | ⟨n, h1, h2, h3, h4⟩
  · exact .inl ⟨h1, he.trans h2⟩
  · exact .inr ⟨n, h1, h2, by omega, he.trans h4⟩
theorem IdxF.take {l : List Fa} {k : Ky} {day kn : Int} {i : Nat} (hi : i < l.length) (he : bestF (l.take (i + 1)) k day kn = some l[i]) : IdxF l k day kn (i + 1) i := .inr ⟨i, rfl, hi, by omega, he⟩
end Go.Proofs.Ytmaggokcjcdllaa
/- Facts: what is known up to a time; the values on days. Conditions: none. -/
namespace Go.Proofs.Ytmaggokcjcdllaa
open Go.Avc
def encPt (p : Int × Int) : List PV := [.int p.1, .int p.2]
def encPts (l : List (Int × Int)) : PV := .sl 2 (l.map encPt)
theorem sub_sl {sz : Nat} {r r' : List (List PV)} (h : r = r') : PSub (.sl sz r) (.sl sz r') := by rw [h]; exact PSub.refl _
set_option maxRecDepth 20000
set_option maxHeartbeats 4000000
set_option linter.unusedSimpArgs false
attribute [local irreducible] PSub Wp PSpec Le Need Both
attribute [local irreducible] Fa.bef atF
end Go.Proofs.Ytmaggokcjcdllaa
