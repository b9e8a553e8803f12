/- Sources, tables and credentials are compared with themselves; numbers and credentials with others. Conditions: none. -/
import Derived.Test.YtmaggokcjcdllaaWd
import Derived.Test.YtmaggokcjcdllaaWi
set_option linter.unusedSimpArgs false
set_option linter.unusedVariables false
namespace Go.Proofs.Ytmaggokcjcdllaa
open Go.Avc
set_option maxRecDepth 20000
set_option maxHeartbeats 4000000
set_option linter.unusedSimpArgs false
attribute [local irreducible] PSub Wp PSpec Le Need Both
theorem sameI_spec (a b : List Int) (ha : a.length ≤ 140737488355328) (hb : b.length ≤ 140737488355328) : PSpec Try.prog 40 [encIs a, encIs b] (.bool (decide (a = b))) := by
  have hlb : (b.map fun x => [PV.int x]).length = b.length := List.length_map ..
  have hla : (a.map fun x => [PV.int x]).length = a.length := List.length_map ..
  by_cases hl : a.length = b.length
  · refine PSpec.of_vc (fun Γ => more8 false Γ.P Γ.fx) (fun Γ => more8_ok) Try.func40 rfl Try.call40 (by simp) ?_
    rintro ⟨P, N, w0, X, β0, fx, y, hy, pk, df⟩ rfl rfl rfl hoff rfl; change y.on = false at hoff
    repeat' ((try conv => whnf); first | (first | refine k3 (fun hb => ?_) fun hb => ?_ | refine k4 (fun hb => ?_) fun hb => ?_) <;> (try rw [List.length_map] at hb) <;> (try (exfalso; omega; done)) | fail)
    refine Wp.loop (fun k : Nat => ⟨[(0, .pure (encIs a)), (1, .pure (encIs b)), (5, .int k)], [], []⟩) (fun k => k ≤ a.length ∧ ∀ j (h1 : j < a.length) (h2 : j < b.length), j < k → a[j] = b[j]) (fun k => a.length - k) 0 (Le.of ?_ ?_ rfl rfl rfl) ⟨by omega, fun j _ _ h => by omega⟩ ?_
    · (repeat' (first | exact trivial | refine And.intro ?_ ?_ | exact Or.inl rfl | fail))
    · (repeat' (first | exact trivial | fail))
    intro k ⟨hk, ho⟩
    by_cases hk2 : k < a.length
    · have hk3 : k < b.length := by omega
      refine code_sound (more := more8 false _ _) more8_ok FOK.wide _ ?_
      repeat' ((try conv => whnf); first | (first | refine k3 (fun hb => ?_) fun hb => ?_ | refine k4 (fun hb => ?_) fun hb => ?_) <;> (try rw [List.length_map] at hb) <;> (try (exfalso; omega; done)) | fail)
      refine Wp.draw (more := more8 true _ _) more8_det more8_ok FOK.wide rfl (by decide +kernel) (by conv => lhs; reduce) ?_
      repeat' ((try conv => whnf); first | (first | refine k3 (fun hb => ?_) fun hb => ?_ | refine k4 (fun hb => ?_) fun hb => ?_) <;> (try rw [List.length_map] at hb) <;> (try (exfalso; omega; done)) | refine s4 nm ?_ | refine s5 nm nm ?_ | fail)
      · refine ⟨k + 1, Le.of (by (repeat' (first | exact trivial | refine And.intro ?_ ?_ | exact Or.inl rfl | fail))) (by (repeat' (first | exact trivial | fail))) rfl rfl rfl, ⟨by omega, fun j h1 h2 hjk => ?_⟩, by omega⟩
        by_cases e : j = k
        · subst e; assumption
        · exact ho j h1 h2 (by omega)
      · have hne : a ≠ b := fun h => by subst h; exact absurd rfl (by assumption)
        rw [decide_eq_false hne]
        exact PSub.refl _
    · have e : a = b := eq_at hl fun j h1 h2 => ho j h1 h2 (by omega)
      rw [decide_eq_true e]
      refine code_sound (more := more8 false _ _) more8_ok FOK.wide _ ?_
      repeat' ((try conv => whnf); first | (first | refine k3 (fun hb => ?_) fun hb => ?_ | refine k4 (fun hb => ?_) fun hb => ?_) <;> (try rw [List.length_map] at hb) <;> (try (exfalso; omega; done)) | fail)
      exact PSub.refl _
  · have hne : a ≠ b := fun h => hl (by rw [h])
    rw [decide_eq_false hne]
    refine PSpec.of_vc (fun Γ => more8 false Γ.P Γ.fx) (fun Γ => more8_ok) Try.func40 rfl Try.call40 (by simp) ?_
    rintro ⟨P, N, w0, X, β0, fx, y, hy, pk, df⟩ rfl rfl rfl hoff rfl; change y.on = false at hoff
    repeat' ((try conv => whnf); first | (first | refine k3 (fun hb => ?_) fun hb => ?_ | refine k4 (fun hb => ?_) fun hb => ?_) <;> (try rw [List.length_map] at hb) <;> (try (exfalso; omega; done)) | fail)
    exact PSub.refl _
end Go.Proofs.Ytmaggokcjcdllaa
/- Credentials are compared. Conditions: none. -/
namespace Go.Proofs.Ytmaggokcjcdllaa
open Go.Avc
set_option maxRecDepth 20000
set_option maxHeartbeats 4000000
set_option linter.unusedSimpArgs false
attribute [local irreducible] PSub Wp PSpec Le Need Both
theorem in_eq {a b : In} : a = b ↔ a.schema = b.schema ∧ a.person = b.person ∧ a.item = b.item ∧ a.values = b.values := by
  cases a; cases b; simp
theorem sameIn_spec (a b : In) (ha : a.values.length ≤ 140737488355328) (h2 : b.values.length ≤ 140737488355328) : PSpec Try.prog 14 [.agg (encIn a), .agg (encIn b)] (.bool (decide (a = b))) := by
  have q := sameI_spec a.values b.values ha h2
  obtain ⟨r, hr⟩ : ∃ r, r = decide (a = b) := ⟨_, rfl⟩
  obtain ⟨o, ho⟩ : ∃ o, o = decide (a.values = b.values) := ⟨_, rfl⟩
  rw [← ho] at q
  rw [← hr]
  have hno : ¬ a = b → PSub (.val (.bool false)) (.bool r) := fun h => by rw [hr, decide_eq_false h]; exact PSub.refl _
  refine PSpec.of_vc (fun Γ => more8 false Γ.P Γ.fx) (fun Γ => more8_ok) Try.func14 rfl Try.call14 (by simp) ?_
  rintro ⟨P, N, w0, X, β0, fx, y, hy, pk, df⟩ rfl rfl rfl hoff rfl; change y.on = false at hoff
  repeat' ((try conv => whnf); first | (first | refine k3 (fun hb => ?_) fun hb => ?_ | refine k4 (fun hb => ?_) fun hb => ?_) <;> (try rw [List.length_map] at hb) <;> (try (exfalso; omega; done)) | fail)
  all_goals first
    | (exact hno fun h => absurd (in_eq.1 h).1 (by assumption))
    | (exact hno fun h => absurd (in_eq.1 h).2.1 (by assumption))
    | (exact hno fun h => absurd (in_eq.1 h).2.2.1 (by assumption))
    | skip
  refine .inl ⟨_, q, ?_⟩
  skip
  refine sub_bool ?_
  rw [hr, ho]
  refine decide_eq_decide.2 ⟨fun h => in_eq.2 ⟨by assumption, by assumption, by assumption, h⟩, fun h => (in_eq.1 h).2.2.2⟩
theorem sameIns_spec (a b : List In) (ha : ∀ x ∈ a, x.values.length ≤ 140737488355328) (h2 : ∀ x ∈ b, x.values.length ≤ 140737488355328) (la : a.length ≤ 140737488355328) (lb : b.length ≤ 140737488355328) : PSpec Try.prog 20 [.sl 4 (a.map encIn), .sl 4 (b.map encIn)] (.bool (decide (a = b))) := by
  have hlb : (b.map encIn).length = b.length := List.length_map ..
  have hla : (a.map encIn).length = a.length := List.length_map ..
  by_cases hl : a.length = b.length
  · refine PSpec.of_vc (fun Γ => more8 false Γ.P Γ.fx) (fun Γ => more8_ok) Try.func20 rfl Try.call20 (by simp) ?_
    rintro ⟨P, N, w0, X, β0, fx, y, hy, pk, df⟩ rfl rfl rfl hoff rfl; change y.on = false at hoff
    repeat' ((try conv => whnf); first | (first | refine k3 (fun hb => ?_) fun hb => ?_ | refine k4 (fun hb => ?_) fun hb => ?_) <;> (try rw [List.length_map] at hb) <;> (try (exfalso; omega; done)) | fail)
    refine Wp.loop (fun k : Nat => ⟨[(0, .pure (.sl 4 (a.map encIn))), (1, .pure (.sl 4 (b.map encIn))), (5, .int k)], [], []⟩) (fun k => k ≤ a.length ∧ ∀ j (h1 : j < a.length) (h2 : j < b.length), j < k → a[j] = b[j]) (fun k => a.length - k) 0 (Le.of ?_ ?_ rfl rfl rfl) ⟨by omega, fun j _ _ h => by omega⟩ ?_
    · (repeat' (first | exact trivial | refine And.intro ?_ ?_ | exact Or.inl rfl | fail))
    · (repeat' (first | exact trivial | fail))
    intro k ⟨hk, ho⟩
    by_cases hk2 : k < a.length
    · have hk3 : k < b.length := by omega
      have q := sameIn_spec a[k] b[k] (ha _ (List.getElem_mem hk2)) (h2 _ (List.getElem_mem hk3))
      by_cases hp : a[k] = b[k]
      · rw [decide_eq_true hp] at q
        refine code_sound (more := more8 false _ _) more8_ok FOK.wide _ ?_
        repeat' ((try conv => whnf); first | (first | refine k3 (fun hb => ?_) fun hb => ?_ | refine k4 (fun hb => ?_) fun hb => ?_) <;> (try rw [List.length_map] at hb) <;> (try (exfalso; omega; done)) | fail)
        refine Wp.draw (more := more8 true _ _) more8_det more8_ok FOK.wide rfl (by decide +kernel) (by conv => lhs; reduce) ?_
        repeat' ((try conv => whnf); first | refine s5 nm nm ?_ | fail)
        refine ⟨_, q, ?_⟩
        repeat' ((try conv => whnf); first | refine s4 nm ?_ | fail)
        refine ⟨k + 1, Le.of (by (repeat' (first | exact trivial | refine And.intro ?_ ?_ | exact Or.inl rfl | fail))) (by (repeat' (first | exact trivial | fail))) rfl rfl rfl, ⟨by omega, fun j h1 h2 hjk => ?_⟩, by omega⟩
        by_cases e : j = k
        · subst e; exact hp
        · exact ho j h1 h2 (by omega)
      · rw [decide_eq_false hp] at q
        have hne : a ≠ b := fun h => hp (by subst h; rfl)
        rw [decide_eq_false hne]
        refine code_sound (more := more8 false _ _) more8_ok FOK.wide _ ?_
        repeat' ((try conv => whnf); first | (first | refine k3 (fun hb => ?_) fun hb => ?_ | refine k4 (fun hb => ?_) fun hb => ?_) <;> (try rw [List.length_map] at hb) <;> (try (exfalso; omega; done)) | fail)
        refine Wp.draw (more := more8 true _ _) more8_det more8_ok FOK.wide rfl (by decide +kernel) (by conv => lhs; reduce) ?_
        repeat' ((try conv => whnf); first | refine s5 nm nm ?_ | fail)
        refine ⟨_, q, ?_⟩
        skip
        exact PSub.refl _
    · have e : a = b := eq_at hl fun j h1 h2 => ho j h1 h2 (by omega)
      rw [decide_eq_true e]
      refine code_sound (more := more8 false _ _) more8_ok FOK.wide _ ?_
      repeat' ((try conv => whnf); first | (first | refine k3 (fun hb => ?_) fun hb => ?_ | refine k4 (fun hb => ?_) fun hb => ?_) <;> (try rw [List.length_map] at hb) <;> (try (exfalso; omega; done)) | fail)
      exact PSub.refl _
  · have hne : a ≠ b := fun h => hl (by rw [h])
    rw [decide_eq_false hne]
    refine PSpec.of_vc (fun Γ => more8 false Γ.P Γ.fx) (fun Γ => more8_ok) Try.func20 rfl Try.call20 (by simp) ?_
    rintro ⟨P, N, w0, X, β0, fx, y, hy, pk, df⟩ rfl rfl rfl hoff rfl; change y.on = false at hoff
    repeat' ((try conv => whnf); first | (first | refine k3 (fun hb => ?_) fun hb => ?_ | refine k4 (fun hb => ?_) fun hb => ?_) <;> (try rw [List.length_map] at hb) <;> (try (exfalso; omega; done)) | fail)
    exact PSub.refl _
end Go.Proofs.Ytmaggokcjcdllaa
/- Records: worlds that are small. Conditions: none. -/
namespace Go.Proofs.Ytmaggokcjcdllaa
open Go.Avc
/-- A source is small. -/
def fewS (s : Src) : Prop := (∀ i (h : i < s.schemas.length), s.schemas[i].fields.length ≤ 6 ∧ s.schemas[i].depends.length ≤ 4) ∧ (∀ i (h : i < s.rules.length), s.rules[i].froms.length ≤ 4 ∧ s.rules[i].where_.length ≤ 5 ∧ s.rules[i].sets.length ≤ 6) ∧
  (∀ i (h : i < s.converts.length), s.converts[i].moves.length ≤ 6) ∧ (∀ i (h : i < s.purposes.length), s.purposes[i].may.length ≤ 10) ∧ s.issuers.length ≤ 4 ∧ s.units.length ≤ 5 ∧ s.schemas.length ≤ 6 ∧ s.rules.length ≤ 4 ∧ s.converts.length ≤ 4 ∧ s.purposes.length ≤ 4
theorem lmap {α β : Type} (f : α → β) (l : List α) : (l.map f).length = l.length := List.length_map ..
open Classical in
noncomputable def fewB (s : Src) : Bool := decide (fewS s)
open Classical in
theorem fewB_iff {s : Src} : fewB s = true ↔ fewS s := by unfold fewB; exact decide_eq_true_iff
noncomputable def fewW (w : Wd) : Bool := fewB w.src && decide (w.order.length ≤ 20) && decide (w.facts.length ≤ 60)
set_option maxRecDepth 20000
set_option maxHeartbeats 4000000
set_option linter.unusedSimpArgs false
attribute [local irreducible] PSub Wp PSpec Le Need Both
theorem fewS_spec (s : Src) (hs : s.sz) : PSpec Try.prog 58 [.agg (encSrc s)] (.bool (fewB s)) := by
  have b1 := hs.ls
  have b2 := hs.lr
  have b3 := hs.lc
  have b4 := hs.lp
  obtain ⟨r, hr⟩ : ∃ r, r = fewB s := ⟨_, rfl⟩
  rw [← hr]
  have hno : ¬ fewS s → PSub (.val (.bool false)) (.bool r) := fun h => by
    have e : r = false := by rw [hr]; exact Bool.eq_false_iff.2 fun h' => h (fewB_iff.1 h')
    rw [e]; exact PSub.refl _
  have hyes : fewS s → PSub (.val (.bool true)) (.bool r) := fun h => by
    have e : r = true := by rw [hr]; exact fewB_iff.2 h
    rw [e]; exact PSub.refl _
  refine PSpec.of_vc (fun Γ => more8 false Γ.P Γ.fx) (fun Γ => more8_ok) Try.func58 rfl Try.call58 (by simp) ?_
  rintro ⟨P, N, w0, X, β0, fx, y, hy, pk, df⟩ rfl rfl rfl hoff rfl; change y.on = false at hoff
  skip
  refine Wp.loop (fun i : Nat => ⟨[(1, .loc 1 0 0), (3, .int i)], [(1, some (.box (pures (encSrc s))))], [1]⟩) (fun i => i ≤ s.schemas.length ∧ ∀ j (h : j < s.schemas.length), j < i → s.schemas[j].fields.length ≤ 6 ∧ s.schemas[j].depends.length ≤ 4) (fun i => s.schemas.length - i) 0 (Le.of ?_ ?_ rfl rfl rfl) ⟨Nat.zero_le _, fun j _ h => by omega⟩ ?_
  · (repeat' (first | exact trivial | refine And.intro ?_ ?_ | exact Or.inl rfl | fail))
  · (repeat' (first | exact trivial | refine And.intro ?_ ?_ | refine Exists.intro _ (And.intro rfl ?_) | exact Or.inl rfl | fail))
  intro i ⟨hi, ho⟩
  by_cases hi2 : i < s.schemas.length
  case pos =>
    obtain ⟨e1, e2⟩ := And.intro (lmap encFd s.schemas[i].fields) (lmap encDp s.schemas[i].depends)
    refine code_sound (more := more8 false _ _) more8_ok FOK.wide _ ?_
    repeat' ((try conv => whnf); first | (first | refine k3 (fun hb => ?_) fun hb => ?_ | refine k4 (fun hb => ?_) fun hb => ?_) <;> (try rw [List.length_map] at hb) <;> (try (exfalso; omega; done)) | refine s4 nm ?_ | refine s5 nm nm ?_ | fail)
    all_goals first
      | (refine ⟨i + 1, Le.of (by (repeat' (first | exact trivial | refine And.intro ?_ ?_ | exact Or.inl rfl | fail))) (by (repeat' (first | exact trivial | refine And.intro ?_ ?_ | refine Exists.intro _ (And.intro rfl ?_) | exact Or.inl rfl | fail))) rfl rfl rfl, ⟨hi2, fun j hj hlt => ?_⟩, by omega⟩
         by_cases e : j = i
         · subst e; omega
         · exact ho j hj (by omega))
      | exact hno fun h => by have := h.1 i hi2; omega
      | exact hno fun h => by have := h.2.1 i hi2; omega
      | exact hno fun h => by have := h.2.2.1 i hi2; omega
      | exact hno fun h => by have := h.2.2.2.1 i hi2; omega
  have a1 : ∀ j (h : j < s.schemas.length), s.schemas[j].fields.length ≤ 6 ∧ s.schemas[j].depends.length ≤ 4 := fun j h => ho j h (by omega)
  clear ho hi
  refine code_sound (more := more8 false _ _) more8_ok FOK.wide _ ?_
  repeat' ((try conv => whnf); first | (first | refine k3 (fun hb => ?_) fun hb => ?_ | refine k4 (fun hb => ?_) fun hb => ?_) <;> (try rw [List.length_map] at hb) <;> (try (exfalso; omega; done)) | fail)
  refine Wp.loop (fun i : Nat => ⟨[(1, .loc 1 0 0), (4, .int i)], [(1, some (.box (pures (encSrc s))))], [1]⟩) (fun i => i ≤ s.rules.length ∧ ∀ j (h : j < s.rules.length), j < i → s.rules[j].froms.length ≤ 4 ∧ s.rules[j].where_.length ≤ 5 ∧ s.rules[j].sets.length ≤ 6) (fun i => s.rules.length - i) 0 (Le.of ?_ ?_ rfl rfl rfl) ⟨Nat.zero_le _, fun j _ h => by omega⟩ ?_
  · (repeat' (first | exact trivial | refine And.intro ?_ ?_ | exact Or.inl rfl | fail))
  · (repeat' (first | exact trivial | refine And.intro ?_ ?_ | refine Exists.intro _ (And.intro rfl ?_) | exact Or.inl rfl | fail))
  intro i ⟨hi, ho⟩
  by_cases hi2 : i < s.rules.length
  case pos =>
    obtain ⟨e1, e2, e3⟩ := And.intro (lmap encFr s.rules[i].froms) (And.intro (lmap encAt s.rules[i].where_) (lmap encSe s.rules[i].sets))
    refine code_sound (more := more8 false _ _) more8_ok FOK.wide _ ?_
    repeat' ((try conv => whnf); first | (first | refine k3 (fun hb => ?_) fun hb => ?_ | refine k4 (fun hb => ?_) fun hb => ?_) <;> (try rw [List.length_map] at hb) <;> (try (exfalso; omega; done)) | refine s4 nm ?_ | refine s5 nm nm ?_ | fail)
    all_goals first
      | (refine ⟨i + 1, Le.of (by (repeat' (first | exact trivial | refine And.intro ?_ ?_ | exact Or.inl rfl | fail))) (by (repeat' (first | exact trivial | refine And.intro ?_ ?_ | refine Exists.intro _ (And.intro rfl ?_) | exact Or.inl rfl | fail))) rfl rfl rfl, ⟨hi2, fun j hj hlt => ?_⟩, by omega⟩
         by_cases e : j = i
         · subst e; omega
         · exact ho j hj (by omega))
      | exact hno fun h => by have := h.1 i hi2; omega
      | exact hno fun h => by have := h.2.1 i hi2; omega
      | exact hno fun h => by have := h.2.2.1 i hi2; omega
      | exact hno fun h => by have := h.2.2.2.1 i hi2; omega
  have a2 : ∀ j (h : j < s.rules.length), s.rules[j].froms.length ≤ 4 ∧ s.rules[j].where_.length ≤ 5 ∧ s.rules[j].sets.length ≤ 6 := fun j h => ho j h (by omega)
  clear ho hi
  refine code_sound (more := more8 false _ _) more8_ok FOK.wide _ ?_
  repeat' ((try conv => whnf); first | (first | refine k3 (fun hb => ?_) fun hb => ?_ | refine k4 (fun hb => ?_) fun hb => ?_) <;> (try rw [List.length_map] at hb) <;> (try (exfalso; omega; done)) | fail)
  refine Wp.loop (fun i : Nat => ⟨[(1, .loc 1 0 0), (5, .int i)], [(1, some (.box (pures (encSrc s))))], [1]⟩) (fun i => i ≤ s.converts.length ∧ ∀ j (h : j < s.converts.length), j < i → s.converts[j].moves.length ≤ 6) (fun i => s.converts.length - i) 0 (Le.of ?_ ?_ rfl rfl rfl) ⟨Nat.zero_le _, fun j _ h => by omega⟩ ?_
  · (repeat' (first | exact trivial | refine And.intro ?_ ?_ | exact Or.inl rfl | fail))
  · (repeat' (first | exact trivial | refine And.intro ?_ ?_ | refine Exists.intro _ (And.intro rfl ?_) | exact Or.inl rfl | fail))
  intro i ⟨hi, ho⟩
  by_cases hi2 : i < s.converts.length
  case pos =>
    have e1 := lmap encMv s.converts[i].moves
    refine code_sound (more := more8 false _ _) more8_ok FOK.wide _ ?_
    repeat' ((try conv => whnf); first | (first | refine k3 (fun hb => ?_) fun hb => ?_ | refine k4 (fun hb => ?_) fun hb => ?_) <;> (try rw [List.length_map] at hb) <;> (try (exfalso; omega; done)) | refine s4 nm ?_ | refine s5 nm nm ?_ | fail)
    all_goals first
      | (refine ⟨i + 1, Le.of (by (repeat' (first | exact trivial | refine And.intro ?_ ?_ | exact Or.inl rfl | fail))) (by (repeat' (first | exact trivial | refine And.intro ?_ ?_ | refine Exists.intro _ (And.intro rfl ?_) | exact Or.inl rfl | fail))) rfl rfl rfl, ⟨hi2, fun j hj hlt => ?_⟩, by omega⟩
         by_cases e : j = i
         · subst e; omega
         · exact ho j hj (by omega))
      | exact hno fun h => by have := h.1 i hi2; omega
      | exact hno fun h => by have := h.2.1 i hi2; omega
      | exact hno fun h => by have := h.2.2.1 i hi2; omega
      | exact hno fun h => by have := h.2.2.2.1 i hi2; omega
  have a3 : ∀ j (h : j < s.converts.length), s.converts[j].moves.length ≤ 6 := fun j h => ho j h (by omega)
  clear ho hi
  refine code_sound (more := more8 false _ _) more8_ok FOK.wide _ ?_
  repeat' ((try conv => whnf); first | (first | refine k3 (fun hb => ?_) fun hb => ?_ | refine k4 (fun hb => ?_) fun hb => ?_) <;> (try rw [List.length_map] at hb) <;> (try (exfalso; omega; done)) | fail)
  refine Wp.loop (fun i : Nat => ⟨[(1, .loc 1 0 0), (6, .int i)], [(1, some (.box (pures (encSrc s))))], [1]⟩) (fun i => i ≤ s.purposes.length ∧ ∀ j (h : j < s.purposes.length), j < i → s.purposes[j].may.length ≤ 10) (fun i => s.purposes.length - i) 0 (Le.of ?_ ?_ rfl rfl rfl) ⟨Nat.zero_le _, fun j _ h => by omega⟩ ?_
  · (repeat' (first | exact trivial | refine And.intro ?_ ?_ | exact Or.inl rfl | fail))
  · (repeat' (first | exact trivial | refine And.intro ?_ ?_ | refine Exists.intro _ (And.intro rfl ?_) | exact Or.inl rfl | fail))
  intro i ⟨hi, ho⟩
  by_cases hi2 : i < s.purposes.length
  case pos =>
    have e1 := lmap encRf s.purposes[i].may
    refine code_sound (more := more8 false _ _) more8_ok FOK.wide _ ?_
    repeat' ((try conv => whnf); first | (first | refine k3 (fun hb => ?_) fun hb => ?_ | refine k4 (fun hb => ?_) fun hb => ?_) <;> (try rw [List.length_map] at hb) <;> (try (exfalso; omega; done)) | refine s4 nm ?_ | refine s5 nm nm ?_ | fail)
    all_goals first
      | (refine ⟨i + 1, Le.of (by (repeat' (first | exact trivial | refine And.intro ?_ ?_ | exact Or.inl rfl | fail))) (by (repeat' (first | exact trivial | refine And.intro ?_ ?_ | refine Exists.intro _ (And.intro rfl ?_) | exact Or.inl rfl | fail))) rfl rfl rfl, ⟨hi2, fun j hj hlt => ?_⟩, by omega⟩
         by_cases e : j = i
         · subst e; omega
         · exact ho j hj (by omega))
      | exact hno fun h => by have := h.1 i hi2; omega
      | exact hno fun h => by have := h.2.1 i hi2; omega
      | exact hno fun h => by have := h.2.2.1 i hi2; omega
      | exact hno fun h => by have := h.2.2.2.1 i hi2; omega
  have a4 : ∀ j (h : j < s.purposes.length), s.purposes[j].may.length ≤ 10 := fun j h => ho j h (by omega)
  clear ho hi
  refine code_sound (more := more8 false _ _) more8_ok FOK.wide _ ?_
  repeat' ((try conv => whnf); first | (first | refine k3 (fun hb => ?_) fun hb => ?_ | refine k4 (fun hb => ?_) fun hb => ?_) <;> (try rw [List.length_map] at hb) <;> (try (exfalso; omega; done)) | fail)
  all_goals first
    | exact hno fun h => by have := h.2.2.2.2; omega
    | skip
  have lp := lmap encPp s.purposes
  have hfin : PSub (.val (.bool (decide (((s.purposes.map encPp).length : Int) ≤ 4)))) (.bool r) := by
    by_cases hf : s.purposes.length ≤ 4
    · rw [decide_eq_true (by omega)]
      exact hyes ⟨a1, a2, a3, a4, by omega, by omega, by omega, by omega, by omega, hf⟩
    · rw [decide_eq_false (by omega)]
      exact hno fun h => by have := h.2.2.2.2; omega
  exact hfin
theorem few_spec (w : Wd) (hs : w.src.sz) : PSpec Try.prog 11 [.agg (encWd w)] (.bool (fewW w)) := by
  have q : PSpec Try.prog 30 [.agg (encTb w.src w.order)] (.bool (fewB w.src && decide (w.order.length ≤ 20))) := by
    have q := fewS_spec w.src hs
    obtain ⟨b, hb⟩ : ∃ b, b = fewB w.src := ⟨_, rfl⟩
    rw [← hb] at q ⊢
    refine PSpec.of_vc (fun Γ => more8 false Γ.P Γ.fx) (fun Γ => more8_ok) Try.func30 rfl Try.call30 (by simp) ?_
    rintro ⟨P, N, w0, X, β0, fx, y, hy, pk, df⟩ rfl rfl rfl hoff rfl; change y.on = false at hoff
    skip
    refine .inl ⟨_, q, ?_⟩
    repeat' ((try conv => whnf); first | refine k6 (fun hb => ?_) fun hb => ?_ | fail)
    all_goals exact sub_bool (by first | (rw [show b = false by assumption]; rfl) | (rw [show b = true by assumption, Bool.true_and]; exact decide_eq_decide.2 (by rw [List.length_map]; omega)))
  unfold fewW
  obtain ⟨b, hb⟩ : ∃ b, b = (fewB w.src && decide (w.order.length ≤ 20)) := ⟨_, rfl⟩
  rw [← hb] at q ⊢
  refine PSpec.of_vc (fun Γ => more8 false Γ.P Γ.fx) (fun Γ => more8_ok) Try.func11 rfl Try.call11 (by simp) ?_
  rintro ⟨P, N, w0, X, β0, fx, y, hy, pk, df⟩ rfl rfl rfl hoff rfl; change y.on = false at hoff
  skip
  refine .inl ⟨_, q, ?_⟩
  repeat' ((try conv => whnf); first | refine k6 (fun hb => ?_) fun hb => ?_ | fail)
  all_goals exact sub_bool (by first | (rw [show b = false by assumption]; rfl) | (rw [show b = true by assumption, Bool.true_and]; exact decide_eq_decide.2 (by rw [List.length_map]; omega)))
theorem few_of {w : Wd} (hs : w.src.sz) (h : fewW w = true) : w.few := by
  unfold fewW at h
  rw [Bool.and_eq_true, Bool.and_eq_true, decide_eq_true_eq, decide_eq_true_eq] at h
  obtain ⟨⟨h1, h2⟩, h3⟩ := h
  have h4 := fewB_iff.1 h1
  exact ⟨hs, by omega, h4.2.2.2.2.2.2.1, fun c hc => by obtain ⟨i, hi, rfl⟩ := List.getElem_of_mem hc; exact (h4.1 i hi).1⟩
end Go.Proofs.Ytmaggokcjcdllaa
