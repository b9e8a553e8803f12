/- Facts: what they are, when they are valid, how they are ordered, lists of them. Conditions: none. -/
import Derived.Test.YtinhhmnnfbeimaaWd
import Derived.Test.YtinhhmnnfbeimaaWe
import Derived.Test.YtinhhmnnfbeimaaRows
set_option linter.unusedSimpArgs false
set_option linter.unusedVariables false
namespace Go.Proofs.Ytinhhmnnfbeimaa
open Go.Avc
structure Ky where
  kind : Int
  subj : Int
  obj : Int
deriving DecidableEq
structure Fa where
  key : Ky
  value : Int
  lo : Int
  hi : Int
  known : Int
  no : Int
deriving DecidableEq
def encKy (k : Ky) : List PV := [.int k.kind, .int k.subj, .int k.obj]
def encFa (f : Fa) : List PV := [.int f.key.kind, .int f.key.subj, .int f.key.obj, .int f.value, .int f.lo, .int f.hi, .int f.known, .int f.no]
def encFs (l : List Fa) : PV := .sl 8 (l.map encFa)
def Fa.ok (f : Fa) : Prop := 0 ≤ f.key.kind ∧ f.key.kind < 16 ∧ 0 ≤ f.key.subj ∧ f.key.subj < 4096 ∧ 0 ≤ f.key.obj ∧ f.key.obj < 1024 ∧ -1 ≤ f.value ∧ f.value ≤ 1048576 ∧ 0 ≤ f.lo ∧ f.lo < f.hi ∧ f.hi ≤ 1024 ∧ 1 ≤ f.known ∧ f.known ≤ 16777216 ∧ 0 ≤ f.no ∧ f.no < 65536
instance (f : Fa) : Decidable f.ok := by unfold Fa.ok; infer_instance
def Fa.bef (a b : Fa) : Prop := a.known < b.known ∨ a.known = b.known ∧ a.no < b.no
instance (a b : Fa) : Decidable (a.bef b) := by unfold Fa.bef; infer_instance
def cmpI (x y : Int) : Int := if x < y then -1 else if y < x then 1 else 0
def cmpF (a b : Fa) : Int := if cmpI a.known b.known ≠ 0 then cmpI a.known b.known else cmpI a.no b.no
theorem cmpF_le (a b : Fa) : cmpF a b ≤ 0 ↔ ¬ b.bef a := by
  unfold cmpF cmpI Fa.bef
  by_cases h1 : a.known < b.known <;> by_cases h2 : b.known < a.known <;> by_cases h3 : a.no < b.no <;> by_cases h4 : b.no < a.no <;> simp [h1, h2, h3, h4] <;> omega
theorem cmpF_ge (a b : Fa) : 0 ≤ cmpF a b ↔ ¬ a.bef b := by
  unfold cmpF cmpI Fa.bef
  by_cases h1 : a.known < b.known <;> by_cases h2 : b.known < a.known <;> by_cases h3 : a.no < b.no <;> by_cases h4 : b.no < a.no <;> simp [h1, h2, h3, h4] <;> omega
set_option maxRecDepth 20000
set_option maxHeartbeats 4000000
set_option linter.unusedSimpArgs false
attribute [local irreducible] PSub Wp PSpec Le Need Both
theorem isNaN_spec (a : Int) : PSpec Try.prog 52 [.int a] (.bool false) := by
  refine PSpec.of_vc (fun Γ => more8 false Γ.P Γ.fx) (fun Γ => more8_ok) Try.func52 rfl Try.call52 (by simp) ?_
  rintro ⟨P, N, w0, X, β0, fx, y, hy, pk, df⟩ rfl rfl rfl hoff rfl; change y.on = false at hoff
  skip
  exact PSub.of_eq (by simp)
theorem cmpI_spec (a b : Int) : PSpec Try.prog 46 [.int a, .int b] (.int (cmpI a b)) := by
  refine PSpec.of_vc (fun Γ => more8 false Γ.P Γ.fx) (fun Γ => more8_ok) Try.func46 rfl Try.call46 (by simp) ?_
  rintro ⟨P, N, w0, X, β0, fx, y, hy, pk, df⟩ rfl rfl rfl hoff rfl; change y.on = false at hoff
  skip
  refine .inl ⟨_, isNaN_spec _, ?_⟩
  skip
  refine .inl ⟨_, isNaN_spec _, ?_⟩
  repeat' ((try conv => whnf); first | (first | refine k3 (fun hb => ?_) fun hb => ?_ | refine k4 (fun hb => ?_) fun hb => ?_) <;> (try rw [List.length_map] at hb) <;> (try (exfalso; omega; done)) | fail)
  all_goals exact PSub.of_eq (by unfold cmpI; first | (rw [if_pos (by omega)]) | (rw [if_neg (by omega), if_pos (by omega)]) | (rw [if_neg (by omega), if_neg (by omega)]))
def encI (l : List Int) : PV := .sl 1 (l.map fun x => [.int x])
def orL : List Int → Int
  | [] => 0
  | x :: l => if x ≠ 0 then x else orL l
theorem orL_drop {l : List Int} {k : Nat} (h : k < l.length) : orL (l.drop k) = if l[k] ≠ 0 then l[k] else orL (l.drop (k + 1)) := by
  rw [List.drop_eq_getElem_cons h]; rfl
theorem or_spec (l : List Int) (hl : l.length ≤ 1000) : PSpec Try.prog 45 [encI l] (.int (orL l)) := by
  refine PSpec.of_vc (fun Γ => more8 false Γ.P Γ.fx) (fun Γ => more8_ok) Try.func45 rfl Try.call45 (by simp) ?_
  rintro ⟨P, N, w0, X, β0, fx, y, hy, pk, df⟩ rfl rfl rfl hoff rfl; change y.on = false at hoff
  skip
  refine Wp.loop (fun k : Nat => ⟨[(3, .int 0), (6, .pure (encI l)), (7, .int l.length), (8, .int k)], [], []⟩) (fun k => k ≤ l.length ∧ orL l = orL (l.drop k)) (fun k => l.length - k) 0 (Le.of ?_ ?_ rfl rfl rfl) ⟨by omega, rfl⟩ ?_
  · (repeat' (first | exact trivial | refine And.intro ?_ ?_ | exact Or.inl rfl | exact l1 bd | fail))
  · (repeat' (first | exact trivial | fail))
  intro k ⟨hk, hd⟩
  by_cases hk2 : k < l.length
  · rw [orL_drop hk2] at hd
    refine code_sound (more := more8 false _ _) more8_ok FOK.wide _ ?_
    repeat' ((try conv => whnf); first | (first | refine k3 (fun hb => ?_) fun hb => ?_ | refine k4 (fun hb => ?_) fun hb => ?_) <;> (try rw [List.length_map] at hb) <;> (try (exfalso; omega; done)) | refine s4 nm ?_ | refine s5 nm nm ?_ | fail)
    · refine ⟨k + 1, Le.of (by (repeat' (first | exact trivial | refine And.intro ?_ ?_ | exact Or.inl rfl | fail))) (by (repeat' (first | exact trivial | fail))) rfl rfl rfl, ⟨by omega, by rw [hd, if_neg (by omega)]⟩, by omega⟩
    · exact PSub.of_eq (by rw [hd, if_pos (by omega)])
  · have e : k = l.length := by omega
    subst e
    rw [List.drop_of_length_le (by omega)] at hd
    refine code_sound (more := more8 false _ _) more8_ok FOK.wide _ ?_
    repeat' ((try conv => whnf); first | (first | refine k3 (fun hb => ?_) fun hb => ?_ | refine k4 (fun hb => ?_) fun hb => ?_) <;> (try rw [List.length_map] at hb) <;> (try (exfalso; omega; done)) | fail)
    exact PSub.of_eq (by rw [hd]; rfl)
theorem order_spec (a b : Fa) : PSpec Try.prog 33 [.agg (encFa a), .agg (encFa b)] (.int (cmpF a b)) := by
  have q1 := cmpI_spec a.known b.known
  have q2 := cmpI_spec a.no b.no
  have q3 := or_spec [cmpI a.known b.known, cmpI a.no b.no] (by simp)
  have e : orL [cmpI a.known b.known, cmpI a.no b.no] = cmpF a b := by
    unfold cmpF
    simp only [orL]
    split
    · rfl
    · split <;> omega
  rw [e] at q3
  refine PSpec.of_vc (fun Γ => more8 false Γ.P Γ.fx) (fun Γ => more8_ok) Try.func33 rfl Try.call33 (by simp) ?_
  rintro ⟨P, N, w0, X, β0, fx, y, hy, pk, df⟩ rfl rfl rfl hoff rfl; change y.on = false at hoff
  skip
  refine Wp.draw (more := more8 true _ _) more8_det more8_ok FOK.wide rfl (by decide +kernel) (by conv => lhs; reduce) ?_
  skip
  refine ⟨_, q1, ?_⟩
  skip
  refine ⟨_, q2, ?_⟩
  repeat' ((try conv => whnf); first | refine And.intro bd ?_ | fail)
  refine ⟨_, q3, ?_⟩
  skip
  exact PSub.refl _
theorem valid_spec (f : Fa) : PSpec Try.prog 32 [.agg (encFa f)] (.bool (decide f.ok)) := by
  refine PSpec.of_vc (fun Γ => more8 false Γ.P Γ.fx) (fun Γ => more8_ok) Try.func32 rfl Try.call32 (by simp) ?_
  rintro ⟨P, N, w0, X, β0, fx, y, hy, pk, df⟩ rfl rfl rfl hoff rfl; change y.on = false at hoff
  repeat' ((try conv => whnf); first | (first | refine k3 (fun hb => ?_) fun hb => ?_ | refine k4 (fun hb => ?_) fun hb => ?_) <;> (try rw [List.length_map] at hb) <;> (try (exfalso; omega; done)) | refine And.intro rfl ?_ | fail)
  all_goals refine PSub.of_eq (congrArg (fun b => PV.val (.bool b)) ?_)
  all_goals first | exact (decide_eq_false (by unfold Fa.ok; omega)).symm | exact decide_eq_decide.2 (by unfold Fa.ok; omega)
theorem rvalid_spec (f : Fa) : PSpec Try.prog 35 [.agg (encFa f)] (.bool (decide f.ok)) := by
  refine PSpec.of_vc (fun Γ => more8 false Γ.P Γ.fx) (fun Γ => more8_ok) Try.func35 rfl Try.call35 (by simp) ?_
  rintro ⟨P, N, w0, X, β0, fx, y, hy, pk, df⟩ rfl rfl rfl hoff rfl; change y.on = false at hoff
  repeat' ((try conv => whnf); first | (first | refine k3 (fun hb => ?_) fun hb => ?_ | refine k4 (fun hb => ?_) fun hb => ?_) <;> (try rw [List.length_map] at hb) <;> (try (exfalso; omega; done)) | refine And.intro rfl ?_ | fail)
  all_goals refine PSub.of_eq (congrArg (fun b => PV.val (.bool b)) ?_)
  all_goals first | exact (decide_eq_false (by unfold Fa.ok; omega)).symm | exact decide_eq_decide.2 (by unfold Fa.ok; omega)
theorem before_spec (a b : Fa) : PSpec Try.prog 30 [.agg (encFa a), .agg (encFa b)] (.bool (decide (a.bef b))) := by
  refine PSpec.of_vc (fun Γ => more8 false Γ.P Γ.fx) (fun Γ => more8_ok) Try.func30 rfl Try.call30 (by simp) ?_
  rintro ⟨P, N, w0, X, β0, fx, y, hy, pk, df⟩ rfl rfl rfl hoff rfl; change y.on = false at hoff
  repeat' ((try conv => whnf); first | (first | refine k3 (fun hb => ?_) fun hb => ?_ | refine k4 (fun hb => ?_) fun hb => ?_) <;> (try rw [List.length_map] at hb) <;> (try (exfalso; omega; done)) | fail)
  all_goals refine PSub.of_eq (congrArg (fun b => PV.val (.bool b)) ?_)
  all_goals first | exact (decide_eq_false (by unfold Fa.bef; omega)).symm | exact (decide_eq_true (by unfold Fa.bef; omega)).symm | exact decide_eq_decide.2 (by unfold Fa.bef; omega)
end Go.Proofs.Ytinhhmnnfbeimaa
/- Facts: lists are checked, and a fact is added. Conditions: none. -/
namespace Go.Proofs.Ytinhhmnnfbeimaa
open Go.Avc
def srtF : List Fa → Bool
  | a :: b :: l => decide (a.bef b) && srtF (b :: l)
  | _ => true
theorem srtF_iff : ∀ l : List Fa, srtF l = true ↔ ∀ (i : Nat) (h : i + 1 < l.length), l[i].bef l[i + 1]
  | [] => by simp [srtF]
  | [a] => by simp [srtF]
  | a :: b :: l => by
    rw [srtF, Bool.and_eq_true, decide_eq_true_eq, srtF_iff (b :: l)]
    constructor
    · rintro ⟨h1, h2⟩ i h
      cases i with
      | zero => exact h1
      | succ i => exact h2 i (by simpa using h)
    · exact fun h => ⟨h 0 (by simp), fun i hi => h (i + 1) (by simpa using hi)⟩
def okF (l : List Fa) : Bool := l.all fun f => decide f.ok
theorem okF_iff (l : List Fa) : okF l = true ↔ ∀ (i : Nat) (h : i < l.length), l[i].ok := by
  unfold okF
  rw [List.all_eq_true]
  constructor
  · exact fun h i hi => of_decide_eq_true (h _ (List.getElem_mem hi))
  · intro h x hx
    obtain ⟨i, hi, rfl⟩ := List.getElem_of_mem hx
    exact decide_eq_true (h i hi)
def chkF (l : List Fa) : Int := if okF l then (if srtF l then 0 else 41) else 40
def lastF (l : List Fa) (f : Fa) : Bool := match l.getLast? with
  | some x => decide (x.bef f)
  | none => true
theorem lastF_at {l : List Fa} {f : Fa} (h : 0 < l.length) : lastF l f = decide (l[l.length - 1].bef f) := by
  unfold lastF
  rw [List.getLast?_eq_getElem?, List.getElem?_eq_getElem (by omega)]
theorem lastF_nil {l : List Fa} {f : Fa} (h : l.length = 0) : lastF l f = true := by
  rw [List.length_eq_zero_iff.1 h]; rfl
def addF (l : List Fa) (f : Fa) : List Fa × Int := if chkF l ≠ 0 then ([], chkF l) else if f.ok then (if lastF l f then (l ++ [f], 0) else ([], 41)) else ([], 40)
def encFE (x : List Fa × Int) : PV := .tup [encFs x.1, .int x.2]
theorem getF {l : List Fa} {k : Nat} (h : k < l.length) : (l.map encFa)[k]? = some (encFa l[k]) := by simp [h]
set_option maxRecDepth 20000
set_option maxHeartbeats 4000000
set_option linter.unusedSimpArgs false
attribute [local irreducible] PSub Wp PSpec Le Need Both
attribute [local irreducible] Fa.ok Fa.bef
theorem check_spec (l : List Fa) (hl : l.length ≤ 100000) : PSpec Try.prog 15 [encFs l] (.int (chkF l)) := by
  obtain ⟨r, hr⟩ : ∃ r, r = chkF l := ⟨_, rfl⟩
  have h40 : ∀ k (h : k < l.length), ¬ l[k].ok → r = 40 := fun k h hk => by
    rw [hr, chkF, if_neg fun h' => hk ((okF_iff l).1 h' k h)]
  have h41 : (∀ i (h : i < l.length), l[i].ok) → ∀ k (h : k + 1 < l.length), ¬ l[k].bef l[k + 1] → r = 41 := fun ho k h hk => by
    rw [hr, chkF, if_pos ((okF_iff l).2 ho), if_neg fun h' => hk ((srtF_iff l).1 h' k h)]
  have h0 : (∀ i (h : i < l.length), l[i].ok) → (∀ k (h : k + 1 < l.length), l[k].bef l[k + 1]) → r = 0 := fun ho hs => by
    rw [hr, chkF, if_pos ((okF_iff l).2 ho), if_pos ((srtF_iff l).2 hs)]
  rw [← hr]
  refine PSpec.of_vc (fun Γ => more8 false Γ.P Γ.fx) (fun Γ => more8_ok) Try.func15 rfl Try.call15 (by simp) ?_
  rintro ⟨P, N, w0, X, β0, fx, y, hy, pk, df⟩ rfl rfl rfl hoff rfl; change y.on = false at hoff
  skip
  refine Wp.loop (fun k : Nat => ⟨[(0, .pure (encFs l)), (6, .pure (encFs l)), (7, .int l.length), (8, .int k)], [], []⟩) (fun k => k ≤ l.length ∧ ∀ j (h : j < l.length), j < k → l[j].ok) (fun k => l.length - k) 0 (Le.of ?_ ?_ rfl rfl rfl) ⟨by omega, fun j _ h => by omega⟩ ?_
  · (repeat' (first | exact trivial | refine And.intro ?_ ?_ | exact Or.inl rfl | exact l1 bd | fail))
  · (repeat' (first | exact trivial | fail))
  intro k ⟨hk, ho⟩
  by_cases hk2 : k < l.length
  · have q := valid_spec l[k]
    by_cases hp : l[k].ok
    · rw [decide_eq_true hp] at q
      refine code_sound (more := more8 false _ _) more8_ok FOK.wide _ ?_
      repeat' ((try conv => whnf); first | (first | refine k3 (fun hb => ?_) fun hb => ?_ | refine k4 (fun hb => ?_) fun hb => ?_) <;> (try rw [List.length_map] at hb) <;> (try (exfalso; omega; done)) | refine And.intro rfl ?_ | refine s5 nm nm ?_ | fail)
      refine .inl ⟨_, q, ?_⟩
      repeat' ((try conv => whnf); first | refine s4 nm ?_ | fail)
      refine ⟨k + 1, Le.of (by (repeat' (first | exact trivial | refine And.intro ?_ ?_ | exact Or.inl rfl | fail))) (by (repeat' (first | exact trivial | fail))) rfl rfl rfl, ⟨by omega, fun j hj hjk => ?_⟩, by omega⟩
      by_cases e : j = k
      · subst e; exact hp
      · exact ho j hj (by omega)
    · rw [decide_eq_false hp] at q
      have e := h40 k hk2 hp
      subst e
      refine code_sound (more := more8 false _ _) more8_ok FOK.wide _ ?_
      repeat' ((try conv => whnf); first | (first | refine k3 (fun hb => ?_) fun hb => ?_ | refine k4 (fun hb => ?_) fun hb => ?_) <;> (try rw [List.length_map] at hb) <;> (try (exfalso; omega; done)) | refine And.intro rfl ?_ | refine s5 nm nm ?_ | fail)
      refine .inl ⟨_, q, ?_⟩
      skip
      exact PSub.refl _
  · have ho' : ∀ j (h : j < l.length), l[j].ok := fun j h => ho j h (by omega)
    refine code_sound (more := more8 false _ _) more8_ok FOK.wide _ ?_
    repeat' ((try conv => whnf); first | (first | refine k3 (fun hb => ?_) fun hb => ?_ | refine k4 (fun hb => ?_) fun hb => ?_) <;> (try rw [List.length_map] at hb) <;> (try (exfalso; omega; done)) | fail)
    refine Wp.loop (fun k : Nat => ⟨[(0, .pure (encFs l)), (5, .int ((k : Int) + 1))], [], []⟩) (fun k => k ≤ l.length ∧ ∀ j (h : j + 1 < l.length), j < k → l[j].bef l[j + 1]) (fun k => l.length - k) 0 (Le.of ?_ ?_ rfl rfl rfl) ⟨by omega, fun j _ h => by omega⟩ ?_
    · (repeat' (first | exact trivial | refine And.intro ?_ ?_ | exact Or.inl rfl | fail))
    · (repeat' (first | exact trivial | fail))
    intro m ⟨hm, hs⟩
    by_cases hm2 : m + 1 < l.length
    · have q := order_spec l[m] l[m + 1]
      have g1 := getF (l := l) (k := m) (by omega)
      have g2 := getF (l := l) (k := m + 1) hm2
      have hge := cmpF_ge l[m] l[m + 1]
      obtain ⟨c, hc⟩ : ∃ c, c = cmpF l[m] l[m + 1] := ⟨_, rfl⟩
      rw [← hc] at q hge
      have e0 : ((m : Int) + 1 - 1).toNat = m := by omega
      replace q : PSpec Try.prog 33 [.agg (encFa (l[((m : Int) + 1 - 1).toNat]'(by omega))), .agg (encFa l[m + 1])] (.int c) := by simp only [e0]; exact q
      refine code_sound (more := more8 false _ _) more8_ok FOK.wide _ ?_
      repeat' ((try conv => whnf); first | (first | refine k3 (fun hb => ?_) fun hb => ?_ | refine k4 (fun hb => ?_) fun hb => ?_) <;> (try rw [List.length_map] at hb) <;> (try (exfalso; omega; done)) | fail)
      refine Wp.draw (more := more8 true _ _) more8_det more8_ok FOK.wide rfl (by decide +kernel) (by conv => lhs; reduce) ?_
      repeat' ((try conv => whnf); first | refine s4 nm ?_ | refine s5 nm nm ?_ | refine s6 nm nm ?_ | fail)
      refine ⟨_, q, ?_⟩
      repeat' ((try conv => whnf); first | (first | refine k3 (fun hb => ?_) fun hb => ?_ | refine k4 (fun hb => ?_) fun hb => ?_) <;> (try rw [List.length_map] at hb) <;> (try (exfalso; omega; done)) | refine s4 nm ?_ | fail)
      · have e := h41 ho' m hm2 (hge.1 (by omega))
        subst e
        exact PSub.refl _
      · refine ⟨m + 1, Le.of (by (repeat' (first | exact trivial | refine And.intro ?_ ?_ | exact Or.inl rfl | fail))) (by (repeat' (first | exact trivial | fail))) rfl rfl rfl, ⟨by omega, fun j hj hjk => ?_⟩, by omega⟩
        by_cases e : j = m
        · subst e; exact Decidable.byContradiction fun hn => by have := hge.2 hn; omega
        · exact hs j hj (by omega)
    · have e := h0 ho' fun j hj => hs j hj (by omega)
      subst e
      refine code_sound (more := more8 false _ _) more8_ok FOK.wide _ ?_
      repeat' ((try conv => whnf); first | (first | refine k3 (fun hb => ?_) fun hb => ?_ | refine k4 (fun hb => ?_) fun hb => ?_) <;> (try rw [List.length_map] at hb) <;> (try (exfalso; omega; done)) | fail)
      exact PSub.refl _
theorem rcheck_spec (l : List Fa) (hl : l.length ≤ 100000) : PSpec Try.prog 16 [encFs l] (.int (chkF l)) := by
  obtain ⟨r, hr⟩ : ∃ r, r = chkF l := ⟨_, rfl⟩
  have h40 : ∀ k (h : k < l.length), ¬ l[k].ok → r = 40 := fun k h hk => by
    rw [hr, chkF, if_neg fun h' => hk ((okF_iff l).1 h' k h)]
  have h41 : (∀ i (h : i < l.length), l[i].ok) → ∀ k (h : k + 1 < l.length), ¬ l[k].bef l[k + 1] → r = 41 := fun ho k h hk => by
    rw [hr, chkF, if_pos ((okF_iff l).2 ho), if_neg fun h' => hk ((srtF_iff l).1 h' k h)]
  have h0 : (∀ i (h : i < l.length), l[i].ok) → (∀ k (h : k + 1 < l.length), l[k].bef l[k + 1]) → r = 0 := fun ho hs => by
    rw [hr, chkF, if_pos ((okF_iff l).2 ho), if_pos ((srtF_iff l).2 hs)]
  rw [← hr]
  refine PSpec.of_vc (fun Γ => more8 false Γ.P Γ.fx) (fun Γ => more8_ok) Try.func16 rfl Try.call16 (by simp) ?_
  rintro ⟨P, N, w0, X, β0, fx, y, hy, pk, df⟩ rfl rfl rfl hoff rfl; change y.on = false at hoff
  skip
  refine Wp.loop (fun k : Nat => ⟨[(0, .pure (encFs l)), (3, .int k)], [], []⟩) (fun k => k ≤ l.length ∧ ∀ j (h : j < l.length), j < k → l[j].ok) (fun k => l.length - k) 0 (Le.of ?_ ?_ rfl rfl rfl) ⟨by omega, fun j _ h => by omega⟩ ?_
  · (repeat' (first | exact trivial | refine And.intro ?_ ?_ | exact Or.inl rfl | fail))
  · (repeat' (first | exact trivial | fail))
  intro k ⟨hk, ho⟩
  by_cases hk2 : k < l.length
  · have q := rvalid_spec l[k]
    by_cases hp : l[k].ok
    · rw [decide_eq_true hp] at q
      refine code_sound (more := more8 false _ _) more8_ok FOK.wide _ ?_
      repeat' ((try conv => whnf); first | (first | refine k3 (fun hb => ?_) fun hb => ?_ | refine k4 (fun hb => ?_) fun hb => ?_) <;> (try rw [List.length_map] at hb) <;> (try (exfalso; omega; done)) | refine s5 nm nm ?_ | fail)
      refine .inl ⟨_, q, ?_⟩
      repeat' ((try conv => whnf); first | refine s4 nm ?_ | fail)
      refine ⟨k + 1, Le.of (by (repeat' (first | exact trivial | refine And.intro ?_ ?_ | exact Or.inl rfl | fail))) (by (repeat' (first | exact trivial | fail))) rfl rfl rfl, ⟨by omega, fun j hj hjk => ?_⟩, by omega⟩
      by_cases e : j = k
      · subst e; exact hp
      · exact ho j hj (by omega)
    · rw [decide_eq_false hp] at q
      have e := h40 k hk2 hp
      subst e
      refine code_sound (more := more8 false _ _) more8_ok FOK.wide _ ?_
      repeat' ((try conv => whnf); first | (first | refine k3 (fun hb => ?_) fun hb => ?_ | refine k4 (fun hb => ?_) fun hb => ?_) <;> (try rw [List.length_map] at hb) <;> (try (exfalso; omega; done)) | refine s5 nm nm ?_ | fail)
      refine .inl ⟨_, q, ?_⟩
      skip
      exact PSub.refl _
  · have ho' : ∀ j (h : j < l.length), l[j].ok := fun j h => ho j h (by omega)
    refine code_sound (more := more8 false _ _) more8_ok FOK.wide _ ?_
    repeat' ((try conv => whnf); first | (first | refine k3 (fun hb => ?_) fun hb => ?_ | refine k4 (fun hb => ?_) fun hb => ?_) <;> (try rw [List.length_map] at hb) <;> (try (exfalso; omega; done)) | fail)
    refine Wp.loop (fun k : Nat => ⟨[(0, .pure (encFs l)), (4, .int ((k : Int) + 1))], [], []⟩) (fun k => k ≤ l.length ∧ ∀ j (h : j + 1 < l.length), j < k → l[j].bef l[j + 1]) (fun k => l.length - k) 0 (Le.of ?_ ?_ rfl rfl rfl) ⟨by omega, fun j _ h => by omega⟩ ?_
    · (repeat' (first | exact trivial | refine And.intro ?_ ?_ | exact Or.inl rfl | fail))
    · (repeat' (first | exact trivial | fail))
    intro m ⟨hm, hs⟩
    by_cases hm2 : m + 1 < l.length
    · have e0 : ((m : Int) + 1 - 1).toNat = m := by omega
      have q : PSpec Try.prog 30 [.agg (encFa (l[((m : Int) + 1 - 1).toNat]'(by omega))), .agg (encFa l[m + 1])] (.bool (decide (l[m].bef l[m + 1]))) := by simp only [e0]; exact before_spec l[m] l[m + 1]
      have g1 := getF (l := l) (k := m) (by omega)
      have g2 := getF (l := l) (k := m + 1) hm2
      by_cases hp : l[m].bef l[m + 1]
      · rw [decide_eq_true hp] at q
        refine code_sound (more := more8 false _ _) more8_ok FOK.wide _ ?_
        repeat' ((try conv => whnf); first | (first | refine k3 (fun hb => ?_) fun hb => ?_ | refine k4 (fun hb => ?_) fun hb => ?_) <;> (try rw [List.length_map] at hb) <;> (try (exfalso; omega; done)) | fail)
        refine Wp.draw (more := more8 true _ _) more8_det more8_ok FOK.wide rfl (by decide +kernel) (by conv => lhs; reduce) ?_
        repeat' ((try conv => whnf); first | refine s4 nm ?_ | refine s5 nm nm ?_ | refine s6 nm nm ?_ | fail)
        refine ⟨_, q, ?_⟩
        repeat' ((try conv => whnf); first | refine s4 nm ?_ | fail)
        refine ⟨m + 1, Le.of (by (repeat' (first | exact trivial | refine And.intro ?_ ?_ | exact Or.inl rfl | fail))) (by (repeat' (first | exact trivial | fail))) rfl rfl rfl, ⟨by omega, fun j hj hjk => ?_⟩, by omega⟩
        by_cases e : j = m
        · subst e; exact hp
        · exact hs j hj (by omega)
      · rw [decide_eq_false hp] at q
        have e := h41 ho' m hm2 hp
        subst e
        refine code_sound (more := more8 false _ _) more8_ok FOK.wide _ ?_
        repeat' ((try conv => whnf); first | (first | refine k3 (fun hb => ?_) fun hb => ?_ | refine k4 (fun hb => ?_) fun hb => ?_) <;> (try rw [List.length_map] at hb) <;> (try (exfalso; omega; done)) | fail)
        refine Wp.draw (more := more8 true _ _) more8_det more8_ok FOK.wide rfl (by decide +kernel) (by conv => lhs; reduce) ?_
        repeat' ((try conv => whnf); first | refine s4 nm ?_ | refine s5 nm nm ?_ | refine s6 nm nm ?_ | fail)
        refine ⟨_, q, ?_⟩
        skip
        exact PSub.refl _
    · have e := h0 ho' fun j hj => hs j hj (by omega)
      subst e
      refine code_sound (more := more8 false _ _) more8_ok FOK.wide _ ?_
      repeat' ((try conv => whnf); first | (first | refine k3 (fun hb => ?_) fun hb => ?_ | refine k4 (fun hb => ?_) fun hb => ?_) <;> (try rw [List.length_map] at hb) <;> (try (exfalso; omega; done)) | fail)
      exact PSub.refl _
end Go.Proofs.Ytinhhmnnfbeimaa
/- Facts: one is added. Conditions: none. -/
namespace Go.Proofs.Ytinhhmnnfbeimaa
open Go.Avc
theorem sub_fe {x : List Fa × Int} {q : List (List PV)} {l : List Fa} {e : Int} (hx : x = (l, e)) (h : q = l.map encFa) : PSub (.tup [.sl 8 q, .int e]) (encFE x) := by
  subst hx; subst h; exact PSub.refl _
theorem sub_fn {x : List Fa × Int} {e : Int} (hx : x = ([], e)) : PSub (.tup [.val (.slice none 0 0), .int e]) (encFE x) := by
  subst hx; exact PSub.tup ⟨PSub.nil 8, PSub.refl _, trivial⟩
set_option maxRecDepth 20000
set_option maxHeartbeats 4000000
set_option linter.unusedSimpArgs false
attribute [local irreducible] PSub Wp PSpec Le Need Both
attribute [local irreducible] Fa.ok Fa.bef
theorem cloneF_spec (l : List Fa) (hl : l.length ≤ 100000) : GSpec Try.prog 34 1 ⟨numE 0 [.pure (encFs l)], [], []⟩ [] 1 ⟨[(0, .lsl 7 0 l.length)], [(7, some (.row 8 (l.map encFa)))], [7]⟩ := by
  refine GSpec.of_vc (fun Γ => more8 false Γ.P Γ.fx) (fun Γ => more8_ok) Try.func34 rfl Try.call34 (by decide) ?_
  rintro ⟨P, N, w0, X, β0, fx, y, hy, pk, df⟩ rfl rfl rfl hoff rfl; change y.on = false at hoff
  skip
  intro r hr
  repeat' ((try conv => whnf); first | refine k6 (fun hb => ?_) fun hb => ?_ | refine And.intro rfl ?_ | refine And.intro bd ?_ | fail)
  · have e : l = [] := List.map_eq_nil_iff.1 (hr hb)
    subst e
    exact Le.trans (Le.virt (k := 7) (sz := 8) rfl rfl (by omega)) (Le.of ⟨Or.inr (Or.inr (Or.inr ⟨7, rfl, rfl, rfl⟩)), trivial⟩ ⟨rfl, trivial⟩ rfl rfl rfl)
  · exact Le.of ⟨SubA.lsl (by simp), trivial⟩ ⟨rfl, trivial⟩ rfl rfl rfl
theorem add_spec (l : List Fa) (f : Fa) (hl : l.length ≤ 100000) : PSpec Try.prog 13 [encFs l, .agg (encFa f)] (encFE (addF l f)) := by
  have qc := check_spec l hl
  have qv := valid_spec f
  obtain ⟨c, hc⟩ : ∃ c, c = chkF l := ⟨_, rfl⟩
  obtain ⟨r, hr⟩ : ∃ r, r = addF l f := ⟨_, rfl⟩
  have e1 : c ≠ 0 → r = ([], c) := fun h => by rw [hr, addF, if_pos (hc ▸ h), hc]
  have e2 : c = 0 → ¬ f.ok → r = ([], 40) := fun h h2 => by rw [hr, addF, if_neg (by omega), if_neg h2]
  have e3 : c = 0 → f.ok → lastF l f = false → r = ([], 41) := fun h h2 h3 => by rw [hr, addF, if_neg (by omega), if_pos h2, if_neg (by simp [h3])]
  have e4 : c = 0 → f.ok → lastF l f = true → r = (l ++ [f], 0) := fun h h2 h3 => by rw [hr, addF, if_neg (by omega), if_pos h2, if_pos h3]
  rw [← hc] at qc
  rw [← hr]
  by_cases hk : f.ok
  · rw [decide_eq_true hk] at qv
    by_cases hl0 : 0 < l.length
    · have q := order_spec l[l.length - 1] f
      have g := getF (l := l) (k := l.length - 1) (by omega)
      have hla := lastF_at (f := f) hl0
      have hge := cmpF_ge l[l.length - 1] f
      obtain ⟨o, ho⟩ : ∃ o, o = cmpF l[l.length - 1] f := ⟨_, rfl⟩
      rw [← ho] at q hge
      have e0 : (((l.map encFa).length : Int) - 1).toNat = l.length - 1 := by rw [List.length_map]; omega
      replace q : PSpec Try.prog 33 [.agg (encFa (l[(((l.map encFa).length : Int) - 1).toNat]'(by rw [List.length_map]; omega))), .agg (encFa f)] (.int o) := by simp only [e0]; exact q
      refine PSpec.of_vc (fun Γ => more8 false Γ.P Γ.fx) (fun Γ => more8_ok) Try.func13 rfl Try.call13 (by simp) ?_
      rintro ⟨P, N, w0, X, β0, fx, y, hy, pk, df⟩ rfl rfl rfl hoff rfl; change y.on = false at hoff
      skip
      refine .inl ⟨_, qc, ?_⟩
      repeat' ((try conv => whnf); first | (first | refine k3 (fun hb => ?_) fun hb => ?_ | refine k4 (fun hb => ?_) fun hb => ?_) <;> (try rw [List.length_map] at hb) <;> (try (exfalso; omega; done)) | fail)
      · refine .inl ⟨_, qv, ?_⟩
        skip
        refine Wp.drawG (more := more8 true _ _) more8_det more8_ok FOK.wide rfl (by decide +kernel) (by conv => lhs; reduce) ?_
        repeat' ((try conv => whnf); first | (first | refine k3 (fun hb => ?_) fun hb => ?_ | refine k4 (fun hb => ?_) fun hb => ?_) <;> (try rw [List.length_map] at hb) <;> (try (exfalso; omega; done)) | refine s4 nm ?_ | refine s6 nm nm ?_ | fail)
        refine .inl ⟨_, q, ?_⟩
        repeat' ((try conv => whnf); first | (first | refine k3 (fun hb => ?_) fun hb => ?_ | refine k4 (fun hb => ?_) fun hb => ?_) <;> (try rw [List.length_map] at hb) <;> (try (exfalso; omega; done)) | fail)
        · exact sub_fn (e3 (by assumption) hk (by rw [hla, decide_eq_false (hge.1 (by omega))]))
        · refine Wp.drawG (more := more8 true _ _) more8_det more8_ok FOK.wide rfl (by decide +kernel) (by conv => lhs; reduce) ?_
          skip
          refine .inr ⟨[(7, 30)], [.pure (encFs l)], [], [], [], 1, _, cloneF_spec l hl, ⟨Or.inl rfl, trivial⟩, trivial, ?_⟩
          repeat' ((try conv => whnf); first | refine And.intro bd ?_ | fail)
          refine sub_fe (e4 (by assumption) hk (by rw [hla, decide_eq_true (Decidable.byContradiction fun hn => by have := hge.2 hn; omega)])) ?_
          rw [List.drop_zero, List.take_of_length_le (by simp), List.map_append]
          rfl
      · exact sub_fn (e1 (by assumption))
    · refine PSpec.of_vc (fun Γ => more8 false Γ.P Γ.fx) (fun Γ => more8_ok) Try.func13 rfl Try.call13 (by simp) ?_
      rintro ⟨P, N, w0, X, β0, fx, y, hy, pk, df⟩ rfl rfl rfl hoff rfl; change y.on = false at hoff
      skip
      refine .inl ⟨_, qc, ?_⟩
      repeat' ((try conv => whnf); first | (first | refine k3 (fun hb => ?_) fun hb => ?_ | refine k4 (fun hb => ?_) fun hb => ?_) <;> (try rw [List.length_map] at hb) <;> (try (exfalso; omega; done)) | fail)
      · refine .inl ⟨_, qv, ?_⟩
        skip
        refine Wp.drawG (more := more8 true _ _) more8_det more8_ok FOK.wide rfl (by decide +kernel) (by conv => lhs; reduce) ?_
        repeat' ((try conv => whnf); first | (first | refine k3 (fun hb => ?_) fun hb => ?_ | refine k4 (fun hb => ?_) fun hb => ?_) <;> (try rw [List.length_map] at hb) <;> (try (exfalso; omega; done)) | fail)
        refine Wp.drawG (more := more8 true _ _) more8_det more8_ok FOK.wide rfl (by decide +kernel) (by conv => lhs; reduce) ?_
        skip
        refine .inr ⟨[(7, 30)], [.pure (encFs l)], [], [], [], 1, _, cloneF_spec l hl, ⟨Or.inl rfl, trivial⟩, trivial, ?_⟩
        repeat' ((try conv => whnf); first | refine And.intro bd ?_ | fail)
        refine sub_fe (e4 (by assumption) hk (lastF_nil (by omega))) ?_
        rw [List.drop_zero, List.take_of_length_le (by simp), List.map_append]
        rfl
      · exact sub_fn (e1 (by assumption))
  · rw [decide_eq_false hk] at qv
    refine PSpec.of_vc (fun Γ => more8 false Γ.P Γ.fx) (fun Γ => more8_ok) Try.func13 rfl Try.call13 (by simp) ?_
    rintro ⟨P, N, w0, X, β0, fx, y, hy, pk, df⟩ rfl rfl rfl hoff rfl; change y.on = false at hoff
    skip
    refine .inl ⟨_, qc, ?_⟩
    repeat' ((try conv => whnf); first | (first | refine k3 (fun hb => ?_) fun hb => ?_ | refine k4 (fun hb => ?_) fun hb => ?_) <;> (try rw [List.length_map] at hb) <;> (try (exfalso; omega; done)) | fail)
    · refine .inl ⟨_, qv, ?_⟩
      skip
      exact sub_fn (e2 (by assumption) hk)
    · exact sub_fn (e1 (by assumption))
theorem radd_spec (l : List Fa) (f : Fa) (hl : l.length ≤ 100000) : PSpec Try.prog 14 [encFs l, .agg (encFa f)] (encFE (addF l f)) := by
  have qc := rcheck_spec l hl
  have qv := rvalid_spec f
  obtain ⟨c, hc⟩ : ∃ c, c = chkF l := ⟨_, rfl⟩
  obtain ⟨r, hr⟩ : ∃ r, r = addF l f := ⟨_, rfl⟩
  have e1 : c ≠ 0 → r = ([], c) := fun h => by rw [hr, addF, if_pos (hc ▸ h), hc]
  have e2 : c = 0 → ¬ f.ok → r = ([], 40) := fun h h2 => by rw [hr, addF, if_neg (by omega), if_neg h2]
  have e3 : c = 0 → f.ok → lastF l f = false → r = ([], 41) := fun h h2 h3 => by rw [hr, addF, if_neg (by omega), if_pos h2, if_neg (by simp [h3])]
  have e4 : c = 0 → f.ok → lastF l f = true → r = (l ++ [f], 0) := fun h h2 h3 => by rw [hr, addF, if_neg (by omega), if_pos h2, if_pos h3]
  rw [← hc] at qc
  rw [← hr]
  by_cases hk : f.ok
  · rw [decide_eq_true hk] at qv
    by_cases hl0 : 0 < l.length
    · have g := getF (l := l) (k := l.length - 1) (by omega)
      have hla := lastF_at (f := f) hl0
      have e0 : (((l.map encFa).length : Int) - 1).toNat = l.length - 1 := by rw [List.length_map]; omega
      have q : PSpec Try.prog 30 [.agg (encFa (l[(((l.map encFa).length : Int) - 1).toNat]'(by rw [List.length_map]; omega))), .agg (encFa f)] (.bool (lastF l f)) := by simp only [e0]; rw [hla]; exact before_spec _ _
      obtain ⟨o, ho⟩ : ∃ o, o = lastF l f := ⟨_, rfl⟩
      rw [← ho] at q e3 e4
      refine PSpec.of_vc (fun Γ => more8 false Γ.P Γ.fx) (fun Γ => more8_ok) Try.func14 rfl Try.call14 (by simp) ?_
      rintro ⟨P, N, w0, X, β0, fx, y, hy, pk, df⟩ rfl rfl rfl hoff rfl; change y.on = false at hoff
      skip
      refine .inl ⟨_, qc, ?_⟩
      repeat' ((try conv => whnf); first | (first | refine k3 (fun hb => ?_) fun hb => ?_ | refine k4 (fun hb => ?_) fun hb => ?_) <;> (try rw [List.length_map] at hb) <;> (try (exfalso; omega; done)) | fail)
      · refine .inl ⟨_, qv, ?_⟩
        skip
        refine Wp.drawG (more := more8 true _ _) more8_det more8_ok FOK.wide rfl (by decide +kernel) (by conv => lhs; reduce) ?_
        repeat' ((try conv => whnf); first | (first | refine k3 (fun hb => ?_) fun hb => ?_ | refine k4 (fun hb => ?_) fun hb => ?_) <;> (try rw [List.length_map] at hb) <;> (try (exfalso; omega; done)) | refine s4 nm ?_ | refine s6 nm nm ?_ | fail)
        refine .inl ⟨_, q, ?_⟩
        repeat' ((try conv => whnf); first | refine k5 (fun hb => ?_) fun hb => ?_ | fail)
        · refine Wp.drawG (more := more8 true _ _) more8_det more8_ok FOK.wide rfl (by decide +kernel) (by conv => lhs; reduce) ?_
          repeat' ((try conv => whnf); first | refine And.intro rfl ?_ | refine And.intro bd ?_ | fail)
          refine sub_fe (e4 (by assumption) hk (by assumption)) ?_
          simp
          rw [List.take_of_length_le (by simp)]
          rfl
        · exact sub_fn (e3 (by assumption) hk (by assumption))
      · exact sub_fn (e1 (by assumption))
    · rw [lastF_nil (by omega)] at e4
      refine PSpec.of_vc (fun Γ => more8 false Γ.P Γ.fx) (fun Γ => more8_ok) Try.func14 rfl Try.call14 (by simp) ?_
      rintro ⟨P, N, w0, X, β0, fx, y, hy, pk, df⟩ rfl rfl rfl hoff rfl; change y.on = false at hoff
      skip
      refine .inl ⟨_, qc, ?_⟩
      repeat' ((try conv => whnf); first | (first | refine k3 (fun hb => ?_) fun hb => ?_ | refine k4 (fun hb => ?_) fun hb => ?_) <;> (try rw [List.length_map] at hb) <;> (try (exfalso; omega; done)) | fail)
      · refine .inl ⟨_, qv, ?_⟩
        skip
        refine Wp.drawG (more := more8 true _ _) more8_det more8_ok FOK.wide rfl (by decide +kernel) (by conv => lhs; reduce) ?_
        repeat' ((try conv => whnf); first | (first | refine k3 (fun hb => ?_) fun hb => ?_ | refine k4 (fun hb => ?_) fun hb => ?_) <;> (try rw [List.length_map] at hb) <;> (try (exfalso; omega; done)) | fail)
        refine Wp.drawG (more := more8 true _ _) more8_det more8_ok FOK.wide rfl (by decide +kernel) (by conv => lhs; reduce) ?_
        repeat' ((try conv => whnf); first | refine And.intro rfl ?_ | refine And.intro bd ?_ | fail)
        refine sub_fe (e4 (by assumption) hk rfl) ?_
        simp
        rw [List.take_of_length_le (by simp)]
        rfl
      · exact sub_fn (e1 (by assumption))
  · rw [decide_eq_false hk] at qv
    refine PSpec.of_vc (fun Γ => more8 false Γ.P Γ.fx) (fun Γ => more8_ok) Try.func14 rfl Try.call14 (by simp) ?_
    rintro ⟨P, N, w0, X, β0, fx, y, hy, pk, df⟩ rfl rfl rfl hoff rfl; change y.on = false at hoff
    skip
    refine .inl ⟨_, qc, ?_⟩
    repeat' ((try conv => whnf); first | (first | refine k3 (fun hb => ?_) fun hb => ?_ | refine k4 (fun hb => ?_) fun hb => ?_) <;> (try rw [List.length_map] at hb) <;> (try (exfalso; omega; done)) | fail)
    · refine .inl ⟨_, qv, ?_⟩
      skip
      exact sub_fn (e2 (by assumption) hk)
    · exact sub_fn (e1 (by assumption))
end Go.Proofs.Ytinhhmnnfbeimaa
/- Facts: keys, facts and reads are compared; what is known about a key on a day. Conditions: none. -/
namespace Go.Proofs.Ytinhhmnnfbeimaa
open Go.Avc
theorem isAg {cs : List AV} : ∃ c, AV.agg cs = .agg c ∨ ∃ d, AV.agg cs = .pure (.agg d) ∧ c = pures d := ⟨_, .inl rfl⟩
theorem isAp {ps : List PV} : ∃ c, AV.pure (.agg ps) = .agg c ∨ ∃ d, AV.pure (.agg ps) = .pure (.agg d) ∧ c = pures d := ⟨_, .inr ⟨_, rfl, rfl⟩⟩
def vKy (k : Ky) : List Value := [.int .i64 k.kind, .int .i64 k.subj, .int .i64 k.obj]
def vFa (f : Fa) : List Value := [.int .i64 f.key.kind, .int .i64 f.key.subj, .int .i64 f.key.obj, .int .i64 f.value, .int .i64 f.lo, .int .i64 f.hi, .int .i64 f.known, .int .i64 f.no]
theorem kyEq (a b : Ky) : aggEq Try.prog 24 (vKy a).toArray (vKy b).toArray (decide (a = b)) :=
  structEq (d := 3) (ls := [.i .i64, .i .i64, .i .i64]) (by kernel_rfl) (by omega) (by kernel_rfl) (xs := vKy a) (ys := vKy b) ⟨rfl, rfl, rfl, trivial⟩ ⟨rfl, rfl, rfl, trivial⟩ (by
    obtain ⟨a1, a2, a3⟩ := a; obtain ⟨b1, b2, b3⟩ := b
    simp [vKy])
theorem faEq (a b : Fa) : aggEq Try.prog 28 (vFa a).toArray (vFa b).toArray (decide (a = b)) :=
  structEq (d := 3) (ls := [.i .i64, .i .i64, .i .i64, .i .i64, .i .i64, .i .i64, .i .i64, .i .i64]) (by kernel_rfl) (by omega) (by kernel_rfl) (xs := vFa a) (ys := vFa b) ⟨rfl, rfl, rfl, rfl, rfl, rfl, rfl, rfl, trivial⟩ ⟨rfl, rfl, rfl, rfl, rfl, rfl, rfl, rfl, trivial⟩ (by
    obtain ⟨⟨a1, a2, a3⟩, a4, a5, a6, a7, a8⟩ := a; obtain ⟨⟨b1, b2, b3⟩, b4, b5, b6, b7, b8⟩ := b
    simp [vFa, and_assoc])
structure Rd where
  key : Ky
  lo : Int
  hi : Int
deriving DecidableEq
def encRd (r : Rd) : List PV := [.int r.key.kind, .int r.key.subj, .int r.key.obj, .int r.lo, .int r.hi]
def encRds (l : List Rd) : PV := .sl 5 (l.map encRd)
theorem eq_at {α : Type} {a b : List α} (hl : a.length = b.length) (h : ∀ j (h1 : j < a.length) (h2 : j < b.length), a[j] = b[j]) : a = b := List.ext_getElem hl h
set_option maxRecDepth 20000
set_option maxHeartbeats 4000000
set_option linter.unusedSimpArgs false
attribute [local irreducible] PSub Wp PSpec Le Need Both
theorem sameF_spec (a b : List Fa) (ha : a.length ≤ 1000000) (hb : b.length ≤ 1000000) : PSpec Try.prog 17 [encFs a, encFs b] (.bool (decide (a = b))) := by
    have hlb : (b.map encFa).length = b.length := List.length_map ..
    have hla : (a.map encFa).length = a.length := List.length_map ..
    by_cases hl : a.length = b.length
    · refine PSpec.of_vc (fun Γ => more8 false Γ.P Γ.fx) (fun Γ => more8_ok) Try.func17 rfl Try.call17 (by simp) ?_
      rintro ⟨P, N, w0, X, β0, fx, y, hy, pk, df⟩ rfl rfl rfl hoff rfl; change y.on = false at hoff
      repeat' ((try conv => whnf); first | (first | refine k3 (fun hb => ?_) fun hb => ?_ | refine k4 (fun hb => ?_) fun hb => ?_) <;> (try rw [List.length_map] at hb) <;> (try (exfalso; omega; done)) | fail)
      refine Wp.loop (fun k : Nat => ⟨[(0, .pure (.sl 8 (a.map encFa))), (1, .pure (.sl 8 (b.map encFa))), (5, .int k)], [], []⟩) (fun k => k ≤ a.length ∧ ∀ j (h1 : j < a.length) (h2 : j < b.length), j < k → a[j] = b[j]) (fun k => a.length - k) 0 (Le.of ?_ ?_ rfl rfl rfl) ⟨by omega, fun j _ _ h => by omega⟩ ?_
      · (repeat' (first | exact trivial | refine And.intro ?_ ?_ | exact Or.inl rfl | fail))
      · (repeat' (first | exact trivial | fail))
      intro k ⟨hk, ho⟩
      by_cases hk2 : k < a.length
      · have hk3 : k < b.length := by omega
        have q := faEq a[k] b[k]
        by_cases hp : a[k] = b[k]
        · rw [decide_eq_true hp] at q
          refine code_sound (more := more8 false _ _) more8_ok FOK.wide _ ?_
          repeat' ((try conv => whnf); first | (first | refine k3 (fun hb => ?_) fun hb => ?_ | refine k4 (fun hb => ?_) fun hb => ?_) <;> (try rw [List.length_map] at hb) <;> (try (exfalso; omega; done)) | fail)
          refine Wp.draw (more := more8 true _ _) more8_det more8_ok FOK.wide rfl (by decide +kernel) (by conv => lhs; reduce) ?_
          repeat' ((try conv => whnf); first | refine s5 nm nm ?_ | fail)
          refine ⟨_, q, by first | exact isAg | exact isAp, by first | exact isAg | exact isAp, ?_⟩
          repeat' ((try conv => whnf); first | refine s4 nm ?_ | fail)
          refine ⟨k + 1, Le.of (by (repeat' (first | exact trivial | refine And.intro ?_ ?_ | exact Or.inl rfl | fail))) (by (repeat' (first | exact trivial | fail))) rfl rfl rfl, ⟨by omega, fun j h1 h2 hjk => ?_⟩, by omega⟩
          by_cases e : j = k
          · subst e; exact hp
          · exact ho j h1 h2 (by omega)
        · rw [decide_eq_false hp] at q
          have hne : a ≠ b := fun h => hp (by subst h; rfl)
          rw [decide_eq_false hne]
          refine code_sound (more := more8 false _ _) more8_ok FOK.wide _ ?_
          repeat' ((try conv => whnf); first | (first | refine k3 (fun hb => ?_) fun hb => ?_ | refine k4 (fun hb => ?_) fun hb => ?_) <;> (try rw [List.length_map] at hb) <;> (try (exfalso; omega; done)) | fail)
          refine Wp.draw (more := more8 true _ _) more8_det more8_ok FOK.wide rfl (by decide +kernel) (by conv => lhs; reduce) ?_
          repeat' ((try conv => whnf); first | refine s5 nm nm ?_ | fail)
          refine ⟨_, q, by first | exact isAg | exact isAp, by first | exact isAg | exact isAp, ?_⟩
          skip
          exact PSub.refl _
      · have e : a = b := eq_at hl fun j h1 h2 => ho j h1 h2 (by omega)
        rw [decide_eq_true e]
        refine code_sound (more := more8 false _ _) more8_ok FOK.wide _ ?_
        repeat' ((try conv => whnf); first | (first | refine k3 (fun hb => ?_) fun hb => ?_ | refine k4 (fun hb => ?_) fun hb => ?_) <;> (try rw [List.length_map] at hb) <;> (try (exfalso; omega; done)) | fail)
        exact PSub.refl _
    · have hne : a ≠ b := fun h => hl (by rw [h])
      rw [decide_eq_false hne]
      refine PSpec.of_vc (fun Γ => more8 false Γ.P Γ.fx) (fun Γ => more8_ok) Try.func17 rfl Try.call17 (by simp) ?_
      rintro ⟨P, N, w0, X, β0, fx, y, hy, pk, df⟩ rfl rfl rfl hoff rfl; change y.on = false at hoff
      repeat' ((try conv => whnf); first | (first | refine k3 (fun hb => ?_) fun hb => ?_ | refine k4 (fun hb => ?_) fun hb => ?_) <;> (try rw [List.length_map] at hb) <;> (try (exfalso; omega; done)) | fail)
      exact PSub.refl _
end Go.Proofs.Ytinhhmnnfbeimaa
