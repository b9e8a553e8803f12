/- Records: what is put is there (the plain law). Conditions: none. -/
import Derived.Test.YtmaggokcjcdllaaWl
import Derived.Test.YtmaggokcjcdllaaWd
set_option linter.unusedSimpArgs false
set_option linter.unusedVariables false
namespace Go.Proofs.Ytmaggokcjcdllaa
open Go.Avc
theorem addF_ok {l l' : List Fa} {f : Fa} (h : addF l f = (l', 0)) : l' = l ++ [f] ∧ chkF l = 0 ∧ f.ok ∧ lastF l f = true := by
  unfold addF at h
  by_cases h0 : chkF l = 0
  · rw [if_neg (by omega)] at h
    by_cases h1 : f.ok
    · rw [if_pos h1] at h
      by_cases h2 : lastF l f = true
      · rw [if_pos h2] at h
        cases h
        exact ⟨rfl, h0, h1, h2⟩
      · rw [if_neg h2] at h; cases h
    · rw [if_neg h1] at h; cases h
  · rw [if_pos h0] at h
    exact absurd (congrArg Prod.snd h) h0
theorem chk_zero {l : List Fa} : chkF l = 0 ↔ okF l = true ∧ srtF l = true := by
  unfold chkF
  split
  · split
    · simp_all
    · simp_all
  · simp_all
theorem bef_trans {a b c : Fa} (h : a.bef b) (h' : b.bef c) : a.bef c := by unfold Fa.bef at h h' ⊢; omega
theorem bef_irr {a : Fa} : ¬ a.bef a := by unfold Fa.bef; omega
/-- In a list that is checked, each fact comes before the last. -/
theorem all_bef {l : List Fa} (h : srtF l = true) : ∀ (i j : Nat) (hj : j < l.length) (hij : i < j), (l[i]'(by omega)).bef l[j] := by
  intro i j hj hij
  induction j with
  | zero => omega
  | succ j ih =>
    have h1 := (srtF_iff l).1 h j hj
    by_cases e : i = j
    · subst e; exact h1
    · exact bef_trans (ih (by omega) (by omega)) h1
theorem last_bef {l : List Fa} {f : Fa} (h : srtF l = true) (hl : lastF l f = true) : ∀ x ∈ l, x.bef f := by
  intro x hx
  obtain ⟨i, hi, rfl⟩ := List.getElem_of_mem hx
  have hlast : l[l.length - 1].bef f := of_decide_eq_true ((lastF_at (by omega)).symm.trans hl)
  by_cases e : i = l.length - 1
  · subst e; exact hlast
  · exact bef_trans (all_bef h i (l.length - 1) (by omega) (by omega)) hlast
theorem chk_snoc {l : List Fa} {f : Fa} (h : chkF l = 0) (hf : f.ok) (hl : lastF l f = true) : chkF (l ++ [f]) = 0 := by
  rw [chk_zero] at h ⊢
  refine ⟨?_, ?_⟩
  · have := h.1
    unfold okF at this ⊢
    rw [List.all_append, this]
    simp [hf]
  · rw [srtF_iff]
    intro i hi
    rw [List.length_append, List.length_singleton] at hi
    by_cases e : i + 1 < l.length
    · rw [List.getElem_append_left (by omega), List.getElem_append_left e]
      exact (srtF_iff l).1 h.2 i e
    · rw [List.getElem_append_left (by omega), List.getElem_append_right (by omega)]
      simp only [List.getElem_singleton]
      exact last_bef h.2 hl _ (List.getElem_mem _)
/-- The facts that are put. -/
def newF (x : In) (v : Sp) (kn no : Int) (i n : Nat) : List Fa := (List.range n).map fun j => factW x v kn no (i + j)
theorem newF_succ (x : In) (v : Sp) (kn no : Int) (i n : Nat) : newF x v kn no i (n + 1) = factW x v kn no i :: newF x v kn no (i + 1) n := by
  unfold newF
  rw [List.range_succ_eq_map, List.map_cons, List.map_map]
  congr 1
  apply List.map_congr_left
  intro j _
  simp only [Function.comp]
  congr 1
  omega
theorem putN_ok {x : In} {v : Sp} {kn no : Int} : ∀ {n i : Nat} {l l' : List Fa}, chkF l = 0 → putN x v kn no n i l = (l', 0) →
    l' = l ++ newF x v kn no i n ∧ chkF l' = 0 ∧ ∀ j, j < n → (factW x v kn no (i + j)).ok ∧ ∀ y ∈ l ++ newF x v kn no i j, y.bef (factW x v kn no (i + j))
  | 0, i, l, l', hc, h => by
    unfold putN at h
    cases h
    exact ⟨by simp [newF], hc, fun j hj => by omega⟩
  | n + 1, i, l, l', hc, h => by
    unfold putN at h
    by_cases h0 : (addF l (factW x v kn no i)).2 = 0
    · rw [if_pos h0] at h
      obtain ⟨e1, e2, e3, e4⟩ := addF_ok (l := l) (l' := (addF l (factW x v kn no i)).1) (f := factW x v kn no i) (by rw [← h0])
      rw [e1] at h
      obtain ⟨f1, f2, f3⟩ := putN_ok (chk_snoc hc e3 e4) h
      refine ⟨?_, f2, fun j hj => ?_⟩
      · rw [f1, newF_succ]; simp
      · cases j with
        | zero =>
          refine ⟨by simpa using e3, fun y hy => ?_⟩
          simp only [newF, List.range_zero, List.map_nil, List.append_nil] at hy
          exact last_bef (chk_zero.1 hc).2 e4 y hy
        | succ j =>
          obtain ⟨g1, g2⟩ := f3 j (by omega)
          rw [show i + 1 + j = i + (j + 1) by omega] at g1 g2
          refine ⟨g1, fun y hy => g2 y ?_⟩
          rw [newF_succ] at hy
          simpa using hy
    · rw [if_neg h0] at h
      exfalso
      apply h0
      have := congrArg Prod.snd h
      exact this
theorem abtF_app (l m : List Fa) (k : Ky) (kn : Int) : abtF (l ++ m) k kn = abtF l k kn ++ abtF m k kn := by unfold abtF; rw [List.filter_append]
theorem bestF_app (l m : List Fa) (k : Ky) (day kn : Int) : bestF (l ++ m) k day kn = (abtF m k kn).foldl (pickF day) (bestF l k day kn) := by
  unfold bestF
  rw [abtF_app, List.foldl_append]
/-- Facts that are about something else, or of other days, or not known yet, change nothing. -/
theorem best_same {l m : List Fa} {k : Ky} {day kn : Int} (h : ∀ f ∈ m, f.key = k → f.known ≤ kn → ¬ (f.lo ≤ day ∧ day < f.hi)) : bestF (l ++ m) k day kn = bestF l k day kn := by
  rw [bestF_app]
  generalize bestF l k day kn = b
  have h2 : ∀ f ∈ abtF m k kn, ¬ (f.lo ≤ day ∧ day < f.hi) := fun f hf => by
    unfold abtF at hf
    rw [List.mem_filter] at hf
    have h3 := hf.2
    unfold abt at h3
    rw [Bool.and_eq_true, decide_eq_true_eq, decide_eq_true_eq] at h3
    exact h f hf.1 h3.1 h3.2
  generalize abtF m k kn = q at h2
  induction q generalizing b with
  | nil => rfl
  | cons f q ih =>
    rw [List.foldl_cons, pickF_no (h2 f (by simp))]
    exact ih b fun g hg => h2 g (by simp [hg])
theorem best_mem {l : List Fa} {k : Ky} {day kn : Int} {x : Fa} (h : bestF l k day kn = some x) : x ∈ l := by
  unfold bestF at h
  have hsub : ∀ f ∈ abtF l k kn, f ∈ l := fun f hf => (List.mem_filter.1 hf).1
  generalize abtF l k kn = q at h hsub
  have gen : ∀ (q : List Fa) (b : Option Fa), (∀ f ∈ q, f ∈ l) → (∀ y, b = some y → y ∈ l) → q.foldl (pickF day) b = some x → x ∈ l := by
    intro q
    induction q with
    | nil => intro b _ hb h; exact hb x h
    | cons f q ih =>
      intro b hq hb h
      rw [List.foldl_cons] at h
      refine ih _ (fun g hg => hq g (by simp [hg])) (fun y hy => ?_) h
      unfold pickF at hy
      split at hy
      · cases hy; exact hq f (by simp)
      · exact hb y hy
  exact gen q none hsub (fun y hy => by cases hy) h
/-- A fact that comes after all others counts. -/
theorem best_new {l m : List Fa} {f : Fa} {day kn : Int} (hb : ∀ y ∈ l, y.bef f) (hk : f.known ≤ kn) (hd : f.lo ≤ day ∧ day < f.hi) (hm : ∀ g ∈ m, g.key ≠ f.key) : bestF (l ++ f :: m) f.key day kn = some f := by
  have e : l ++ f :: m = (l ++ [f]) ++ m := by simp
  rw [e, best_same (fun g hg h => absurd h (hm g hg)), bestF_app]
  have ha : abtF [f] f.key kn = [f] := by unfold abtF abt; simp [hk]
  rw [ha, List.foldl_cons, List.foldl_nil]
  cases hbl : bestF l f.key day kn with
  | none => exact pickF_none hd
  | some x => exact pickF_yes hd fun h => bef_irr (bef_trans (hb x (best_mem hbl)) h)
theorem newF_mem {x : In} {v : Sp} {kn no : Int} {i n : Nat} {f : Fa} (h : f ∈ newF x v kn no i n) : ∃ j, j < n ∧ f = factW x v kn no (i + j) := by
  unfold newF at h
  rw [List.mem_map] at h
  obtain ⟨j, hj, rfl⟩ := h
  exact ⟨j, List.mem_range.1 hj, rfl⟩
theorem newF_split (x : In) (v : Sp) (kn no : Int) (i : Nat) {n j : Nat} (h : j < n) : newF x v kn no i n = newF x v kn no i j ++ factW x v kn no (i + j) :: newF x v kn no (i + j + 1) (n - j - 1) := by
  unfold newF
  have e : List.range n = List.range j ++ (List.range' j (n - j)) := by
    have h1 := List.range'_append_1 (s := 0) (m := j) (n := n - j)
    rw [Nat.zero_add, show j + (n - j) = n by omega] at h1
    rw [List.range_eq_range', List.range_eq_range', h1]
  rw [e, List.map_append, show n - j = (n - j - 1) + 1 by omega, List.range'_succ, List.map_cons]
  congr 2
  rw [List.range'_eq_map_range, List.map_map]
  apply List.map_congr_left
  intro a _
  simp only [Function.comp]
  congr 1
  omega
end Go.Proofs.Ytmaggokcjcdllaa
/- Records: what is put is there (what At says). Conditions: none. -/
namespace Go.Proofs.Ytmaggokcjcdllaa
open Go.Avc
theorem goodN_spec (look : Nat → Int × Bool) (n : Nat) : (∀ j, j < goodN look n → (look j).2 = true) ∧ (goodN look n < n → (look (goodN look n)).2 = false) := by
  unfold goodN
  refine ⟨fun j hj => ?_, fun h => ?_⟩
  · have := List.not_of_lt_findIdx hj
    simpa using this
  · have := List.findIdx_getElem (xs := List.range n) (p := fun i => !(look i).2) (w := by simpa using h)
    simpa using this
theorem goodN_congr {f g : Nat → Int × Bool} {n : Nat} (h : ∀ j, j < n → f j = g j) : goodN f n = goodN g n := by
  obtain ⟨h1, h2⟩ := goodN_spec f n
  have h3 := goodN_le f n
  by_cases e : goodN f n < n
  · exact (goodN_bad e (by rw [← h _ e]; exact h2 e) fun j hj => by rw [← h j (by omega)]; exact h1 j hj).symm
  · have e2 : goodN f n = n := by omega
    rw [e2] at h1 ⊢
    exact (goodN_all fun j hj => by rw [← h j hj]; exact h1 j hj).symm
theorem atW_congr {w w' : Wd} (hs : w'.src = w.src) {s p i d kn : Int} (h : ∀ j, j < nF w.src s → lookW w' s p i d kn j = lookW w s p i d kn j) : atW w' s p i d kn = atW w s p i d kn := by
  have e1 : askOK w' s p i d ↔ askOK w s p i d := by unfold askOK; rw [hs]
  have e2 := goodN_congr h
  have e3 : (List.range (nF w.src s)).map (fun j => (lookW w' s p i d kn j).1) = (List.range (nF w.src s)).map (fun j => (lookW w s p i d kn j).1) :=
    List.map_congr_left fun j hj => by rw [h j (List.mem_range.1 hj)]
  unfold atW
  simp only [e1, hs, e2, e3]
theorem valOK_nonneg {s : Src} {a b v : Int} (h : valOK s a b v = true) : 0 ≤ v := by
  unfold valOK at h
  split at h
  · rw [Bool.and_eq_true, decide_eq_true_eq, decide_eq_true_eq] at h
    have h1 := h.1
    unfold tyOK at h1
    omega
  · cases h
theorem putW_bad {w : Wd} {x : In} {v : Sp} {kn : Int} (h : (putW w x v kn).2 ≠ 0) : (putW w x v kn).1 = zeroWd := by
  unfold putW at h ⊢
  split
  · rfl
  · split
    · split
      · rename_i h1 h2 h3
        rw [if_neg h1, if_pos h2, if_pos h3] at h
        exact absurd rfl h
      · rfl
    · rfl
theorem putW_good {w : Wd} {x : In} {v : Sp} {kn : Int} (h : (putW w x v kn).2 = 0) : chkF w.facts = 0 ∧ fitsOK w.src x ∧ ∃ l, putN x v kn (noW w.facts kn) (x.values.length - 1) 1 w.facts = (l, 0) ∧ (putW w x v kn).1 = ⟨w.src, w.order, l⟩ := by
  unfold putW at h ⊢
  by_cases h1 : chkF w.facts = 0
  · rw [if_neg (by omega)] at h ⊢
    by_cases h2 : fitsOK w.src x
    · rw [if_pos h2] at h ⊢
      by_cases h3 : (putN x v kn (noW w.facts kn) (x.values.length - 1) 1 w.facts).2 = 0
      · rw [if_pos h3]
        exact ⟨h1, h2, _, by rw [← h3], rfl⟩
      · rw [if_neg h3] at h
        exact absurd h h3
    · rw [if_neg h2] at h
      cases h
  · rw [if_pos h1] at h
    exact absurd h h1
/-- About what is not put, on other days and before, everything is as it was. -/
theorem put_other {w : Wd} (hw : w.few) {x : In} {v : Sp} {kn no : Int} {m : Nat} (hm : m ≤ 5) {s p i d a : Int} (hno : ¬ (s = x.schema ∧ p = x.person ∧ i = x.item ∧ v.lo ≤ d ∧ d < v.hi ∧ kn ≤ a)) :
    atW ⟨w.src, w.order, w.facts ++ newF x v kn no 1 m⟩ s p i d a = atW w s p i d a := by
  refine atW_congr (w := w) (w' := ⟨w.src, w.order, w.facts ++ newF x v kn no 1 m⟩) rfl fun j hj => ?_
  have h5 := nF_le hw s
  have e : atF (w.facts ++ newF x v kn no 1 m) (keyW s p i (j + 1)) d a = atF w.facts (keyW s p i (j + 1)) d a := by
    unfold atF
    rw [best_same]
    intro f hf hk hkn hday
    obtain ⟨q, hq, rfl⟩ := newF_mem hf
    unfold factW keyW at hk hkn hday
    simp only [Ky.mk.injEq] at hk hkn hday
    exact hno ⟨hk.1.symm, hk.2.1.symm, by omega, hday.1, hday.2, hkn⟩
  unfold lookW
  simp only [e]
theorem vals_eq {x : In} {p : Int} {n : Nat} {f : Nat → Int} (hl : x.values.length = n + 1) (h0 : x.values.getD 0 0 = p) (h : ∀ j, j < n → f j = x.values.getD (j + 1) 0) : p :: (List.range n).map f = x.values := by
  refine List.ext_getElem (by simp [hl]) fun k h1 h2 => ?_
  cases k with
  | zero => simp only [List.getElem_cons_zero]; rw [← h0]; simp [List.getD, h2]
  | succ k =>
    simp only [List.length_cons, List.length_map, List.length_range] at h1
    simp only [List.getElem_cons_succ, List.getElem_map, List.getElem_range]
    rw [h k (by omega)]
    simp [List.getD, h2]
/-- What is put is there. -/
theorem put_mine {w : Wd} (hw : w.few) {x : In} {v : Sp} {kn no : Int} (hf : fitsOK w.src x) (hok : ∀ j, j < x.values.length - 1 → (factW x v kn no (1 + j)).ok ∧ ∀ y ∈ w.facts ++ newF x v kn no 1 j, y.bef (factW x v kn no (1 + j))) {d a : Int} (hd : v.lo ≤ d ∧ d < v.hi) (ha : kn ≤ a) :
    (atW ⟨w.src, w.order, w.facts ++ newF x v kn no 1 (x.values.length - 1)⟩ x.schema x.person x.item d a).1 = x ∧ (atW ⟨w.src, w.order, w.facts ++ newF x v kn no 1 (x.values.length - 1)⟩ x.schema x.person x.item d a).2.2 = true := by
  have h5 := nF_le hw x.schema
  obtain ⟨f1, f2, f3, f4, f5, f6, f7, f8⟩ := hf
  have hn1 : 1 ≤ nF w.src x.schema := by
    rcases rec_cases w.src x.schema with ⟨k, hk, e, h2, _⟩ | ⟨_, hrf⟩
    · rw [e, nF_at hk]; omega
    · rw [f1] at hrf; cases hrf
  have hlook : ∀ j, j < nF w.src x.schema → lookW ⟨w.src, w.order, w.facts ++ newF x v kn no 1 (x.values.length - 1)⟩ x.schema x.person x.item d a j = (x.values.getD (j + 1) 0, true) := by
    intro j hj
    obtain ⟨g1, g2⟩ := hok j (by omega)
    have hv := f8 (j + 1) (by omega) (by omega)
    have e : atF (w.facts ++ newF x v kn no 1 (x.values.length - 1)) (keyW x.schema x.person x.item (j + 1)) d a = (x.values.getD (j + 1) 0, true) := by
      unfold atF
      have ek : keyW x.schema x.person x.item (j + 1) = (factW x v kn no (1 + j)).key := by unfold factW keyW; simp only [Ky.mk.injEq, true_and]; omega
      rw [newF_split x v kn no 1 (show j < x.values.length - 1 by omega), ← List.append_assoc, ek, best_new g2 ha hd]
      · unfold valF factW
        simp only
        rw [show 1 + j = j + 1 by omega, if_neg (by have := valOK_nonneg hv; omega)]
      · intro g hg hk
        obtain ⟨q, hq, rfl⟩ := newF_mem hg
        unfold factW keyW at hk
        simp only [Ky.mk.injEq, true_and] at hk
        omega
    unfold lookW
    simp only [e, Bool.true_and]
    rw [show ((j : Int) + 1) = ((j + 1 : Nat) : Int) by omega, hv]
  have hk1 := (hok 0 (by omega)).1
  have hask : askOK ⟨w.src, w.order, w.facts ++ newF x v kn no 1 (x.values.length - 1)⟩ x.schema x.person x.item d := by
    unfold Fa.ok factW at hk1
    simp only at hk1
    exact ⟨f1, f2, f3, f4, f5, by omega, by omega⟩
  have hg : goodN (lookW ⟨w.src, w.order, w.facts ++ newF x v kn no 1 (x.values.length - 1)⟩ x.schema x.person x.item d a) (nF w.src x.schema) = nF w.src x.schema := goodN_all fun j hj => by rw [hlook j hj]
  unfold atW
  rw [if_pos hask, if_pos hg]
  refine ⟨?_, rfl⟩
  have hvals := vals_eq (x := x) (p := x.person) (n := nF w.src x.schema) (f := fun j => (lookW ⟨w.src, w.order, w.facts ++ newF x v kn no 1 (x.values.length - 1)⟩ x.schema x.person x.item d a j).1) f6 f7 (fun j hj => by rw [hlook j hj])
  simp only
  rw [hvals]
end Go.Proofs.Ytmaggokcjcdllaa
/- Records: the law RecordsBack. Conditions: none. -/
namespace Go.Proofs.Ytmaggokcjcdllaa
open Go.Avc
set_option maxRecDepth 20000
set_option maxHeartbeats 4000000
set_option linter.unusedSimpArgs false
attribute [local irreducible] PSub Wp PSpec Le Need Both
attribute [local irreducible] putW atW allW keyP chkF fitsOK
theorem back_law (w : Wd) (hs : w.src.sz) (x : In) (v : Sp) (kn s p i d lt : Int) : PSpec Try.prog 6 [.agg (encWd w), .agg (encIn x), .agg (encSp v), .int kn, .int s, .int p, .int i, .int d, .int lt] (.bool true) := by
  obtain ⟨t, ht⟩ : ∃ t : Bool, t = true := ⟨_, rfl⟩
  have q0 := sane_spec
  rw [← ht] at q0
  have qf := few_spec w hs
  obtain ⟨g, hg⟩ : ∃ g, g = fewW w := ⟨_, rfl⟩
  rw [← hg] at qf
  by_cases hg1 : g = false
  case pos =>
    rw [hg1] at qf
    refine PSpec.of_vc (fun Γ => more8 false Γ.P Γ.fx) (fun Γ => more8_ok) Try.func6 rfl Try.call6 (by simp) ?_
    rintro ⟨P, N, w0, X, β0, fx, y, hy, pk, df⟩ rfl rfl rfl hoff rfl; change y.on = false at hoff
    skip
    refine .inl ⟨_, q0, ?_⟩
    repeat' ((try conv => whnf); first | refine k5 (fun hb => ?_) fun hb => ?_ | fail)
    · refine .inl ⟨_, qf, ?_⟩
      skip
      exact PSub.refl _
    · subst ht; contradiction
  rw [Bool.not_eq_false] at hg1
  have hw := few_of hs (hg ▸ hg1)
  rw [hg1, ← ht] at qf
  have hvl : (x.values.map fun x => [PV.int x]).length = x.values.length := List.length_map ..
  by_cases h30 : x.values.length ≤ 30
  case neg =>
    refine PSpec.of_vc (fun Γ => more8 false Γ.P Γ.fx) (fun Γ => more8_ok) Try.func6 rfl Try.call6 (by simp) ?_
    rintro ⟨P, N, w0, X, β0, fx, y, hy, pk, df⟩ rfl rfl rfl hoff rfl; change y.on = false at hoff
    skip
    refine .inl ⟨_, q0, ?_⟩
    repeat' ((try conv => whnf); first | refine k5 (fun hb => ?_) fun hb => ?_ | fail)
    all_goals first
      | (exfalso; subst ht; contradiction)
      | (exfalso; simp_all; done)
      | skip
    refine .inl ⟨_, qf, ?_⟩
    repeat' ((try conv => whnf); first | (first | refine k3 (fun hb => ?_) fun hb => ?_ | refine k4 (fun hb => ?_) fun hb => ?_) <;> (try rw [List.length_map] at hb) <;> (try (exfalso; omega; done)) | refine k5 (fun hb => ?_) fun hb => ?_ | fail)
    all_goals first
      | exact PSub.refl _
      | (exfalso; subst ht; contradiction)
  have q1 := put_spec w hw x h30 v kn
  by_cases he : (putW w x v kn).2 = 0
  case neg =>
    have hz := putW_bad he
    obtain ⟨⟨y, e⟩, hy⟩ : ∃ y, y = putW w x v kn := ⟨_, rfl⟩
    rw [← hy] at q1 he hz
    dsimp only at he hz
    subst hz
    refine PSpec.of_vc (fun Γ => more8 false Γ.P Γ.fx) (fun Γ => more8_ok) Try.func6 rfl Try.call6 (by simp) ?_
    rintro ⟨P, N, w0, X, β0, fx, y, hy, pk, df⟩ rfl rfl rfl hoff rfl; change y.on = false at hoff
    skip
    refine .inl ⟨_, q0, ?_⟩
    repeat' ((try conv => whnf); first | refine k5 (fun hb => ?_) fun hb => ?_ | fail)
    all_goals first
      | (exfalso; subst ht; contradiction)
      | (exfalso; simp_all; done)
      | skip
    refine .inl ⟨_, qf, ?_⟩
    repeat' ((try conv => whnf); first | (first | refine k3 (fun hb => ?_) fun hb => ?_ | refine k4 (fun hb => ?_) fun hb => ?_) <;> (try rw [List.length_map] at hb) <;> (try (exfalso; omega; done)) | refine k5 (fun hb => ?_) fun hb => ?_ | fail)
    all_goals first
      | (exfalso; subst ht; contradiction)
      | (exfalso; simp_all; done)
      | skip
    refine .inl ⟨_, q1, ?_⟩
    repeat' ((try conv => whnf); first | (first | refine k3 (fun hb => ?_) fun hb => ?_ | refine k4 (fun hb => ?_) fun hb => ?_) <;> (try rw [List.length_map] at hb) <;> (try (exfalso; omega; done)) | refine And.intro rfl ?_ | fail)
    exact PSub.refl _
  obtain ⟨hc, hfit, l, hp, hy1⟩ := putW_good he
  obtain ⟨p1, p2, p3⟩ := putN_ok hc hp
  obtain ⟨no, hno⟩ : ∃ n, n = noW w.facts kn := ⟨_, rfl⟩
  rw [← hno] at p1 p3
  subst p1
  have ey : putW w x v kn = (⟨w.src, w.order, w.facts ++ newF x v kn no 1 (x.values.length - 1)⟩, 0) := by rw [← hy1, ← he]
  rw [ey] at q1
  clear hp hy1 ey he
  have hnl : (newF x v kn no 1 (x.values.length - 1)).length = x.values.length - 1 := by simp [newF]
  have h5 := nF_le hw x.schema
  have h60 := (of_decide_eq_true ((Bool.and_eq_true _ _ ▸ (by rw [hg] at hg1; exact hg1 : fewW w = true) : _ ∧ _).2) : w.facts.length ≤ 60)
  have hvn : x.values.length = nF w.src x.schema + 1 ∧ 1 ≤ nF w.src x.schema := by
    have hfit' := hfit
    unfold fitsOK at hfit'
    refine ⟨hfit'.2.2.2.2.2.1, ?_⟩
    rcases rec_cases w.src x.schema with ⟨k, hk, e, h2, _⟩ | ⟨_, hrf⟩
    · rw [e, nF_at hk]; omega
    · rw [hfit'.1] at hrf; cases hrf
  have hk1 : 1 ≤ kn ∧ kn ≤ 16777216 := by
    have := (p3 0 (by omega)).1
    unfold Fa.ok factW at this
    simp only at this
    omega
  have hother := fun a => put_other hw (x := x) (v := v) (kn := kn) (no := no) (m := x.values.length - 1) (by omega) (s := s) (p := p) (i := i) (d := d) (a := a)
  have hmine := fun a => put_mine hw hfit p3 (d := d) (a := a)
  have hyf : Wd.few ⟨w.src, w.order, w.facts ++ newF x v kn no 1 (x.values.length - 1)⟩ := ⟨hw.sz, by simp only [List.length_append, hnl]; omega, hw.sc, hw.fd⟩
  obtain ⟨F, hF⟩ : ∃ F, F = w.facts ++ newF x v kn no 1 (x.values.length - 1) := ⟨_, rfl⟩
  have hFl : F.length = w.facts.length + x.values.length - 1 := by rw [hF, List.length_append, hnl]; omega
  rw [← hF] at q1 hother hmine hyf p2
  have qc := check_spec F (by omega)
  rw [p2] at qc
  have hfl : (F.map encFa).length = F.length := List.length_map ..
  have hwl : (w.facts.map encFa).length = w.facts.length := List.length_map ..
  clear hF p3 hnl
  refine PSpec.of_vc (fun Γ => more8 false Γ.P Γ.fx) (fun Γ => more8_ok) Try.func6 rfl Try.call6 (by simp) ?_
  rintro ⟨P, N, w0, X, β0, fx, y, hy, pk, df⟩ rfl rfl rfl hoff rfl; change y.on = false at hoff
  skip
  refine .inl ⟨_, q0, ?_⟩
  repeat' ((try conv => whnf); first | refine k5 (fun hb => ?_) fun hb => ?_ | fail)
  all_goals first
    | (exfalso; subst ht; contradiction)
    | (exfalso; simp_all; done)
    | skip
  refine .inl ⟨_, qf, ?_⟩
  repeat' ((try conv => whnf); first | (first | refine k3 (fun hb => ?_) fun hb => ?_ | refine k4 (fun hb => ?_) fun hb => ?_) <;> (try rw [List.length_map] at hb) <;> (try (exfalso; omega; done)) | refine k5 (fun hb => ?_) fun hb => ?_ | fail)
  all_goals first
    | (exfalso; subst ht; contradiction)
    | (exfalso; simp_all; done)
    | skip
  refine .inl ⟨_, q1, ?_⟩
  repeat' ((try conv => whnf); first | refine And.intro rfl ?_ | fail)
  refine .inl ⟨_, qc, ?_⟩
  repeat' ((try conv => whnf); first | (first | refine k3 (fun hb => ?_) fun hb => ?_ | refine k4 (fun hb => ?_) fun hb => ?_) <;> (try rw [List.length_map] at hb) <;> (try (exfalso; omega; done)) | refine s4 nm ?_ | refine And.intro bd ?_ | fail)
  all_goals first
    | (exfalso; dsimp only at *; omega)
    | skip
  refine Wp.loop (fun m : Nat => ⟨[(3, .int kn), (4, .int s), (5, .int p), (6, .int i), (7, .int d), (9, .loc 9 0 0), (10, .loc 10 0 0), (11, .loc 11 0 0), (19, .loc 19 0 0), (77, .lsl 77 0 3), (78, .int 3), (79, .int m)],
      [(9, some (.box (pures (encWd w)))), (10, some (.box (pures (encIn x)))), (11, some (.box (pures (encSp v)))), (19, some (.box (pures (encWd ⟨w.src, w.order, F⟩)))), (77, some (.row 1 ([lt, kn, kn - 1].map fun x => [PV.int x])))], [9, 10, 11, 19, 77]⟩) (fun m => m ≤ 3) (fun m => 3 - m) 0 (Le.of ?_ ?_ rfl rfl rfl) (by omega) ?_
  · (repeat' (first | exact trivial | refine And.intro ?_ ?_ | exact Or.inl rfl | fail))
  · (repeat' (first | exact trivial | exact rfl | refine And.intro ?_ ?_ | refine Exists.intro _ (And.intro rfl ?_) | exact Or.inl rfl | fail))
  intro m hm
  obtain ⟨L, hL⟩ : ∃ L, L = [lt, kn, kn - 1] := ⟨_, rfl⟩
  have hL3 : L.length = 3 := by rw [hL]; rfl
  rw [← hL]
  have hLl : (L.map fun x => [PV.int x]).length = L.length := List.length_map ..
  by_cases hm2 : m < 3
  case neg =>
    refine code_sound (more := more8 false _ _) more8_ok FOK.wide _ ?_
    repeat' ((try conv => whnf); first | (first | refine k3 (fun hb => ?_) fun hb => ?_ | refine k4 (fun hb => ?_) fun hb => ?_) <;> (try rw [List.length_map] at hb) <;> (try (exfalso; omega; done)) | fail)
    exact PSub.refl _
  have hmL : 0 + ((m : Int)).toNat < L.length := by omega
  have a1 := atw_spec _ hyf s p i d (L[0 + ((m : Int)).toNat]'hmL)
  have a2 := atw_spec w hw s p i d (L[0 + ((m : Int)).toNat]'hmL)
  have lb := atW_vals hw s p i d (L[0 + ((m : Int)).toNat]'hmL)
  by_cases hmi : s = x.schema ∧ p = x.person ∧ i = x.item ∧ v.lo ≤ d ∧ d < v.hi ∧ kn ≤ (L[0 + ((m : Int)).toNat]'hmL)
  · obtain ⟨e1, e2, e3, e4, e5, e6⟩ := hmi
    have hA := hmine (L[0 + ((m : Int)).toNat]'hmL) ⟨e4, e5⟩ e6
    rw [← e1, ← e2, ← e3] at hA
    obtain ⟨⟨xa, ra, oa⟩, hxa⟩ : ∃ r, r = atW ⟨w.src, w.order, F⟩ s p i d (L[0 + ((m : Int)).toNat]'hmL) := ⟨_, rfl⟩
    rw [← hxa] at a1 hA
    dsimp only at hA
    obtain ⟨rfl, rfl⟩ := hA
    obtain ⟨⟨xb, rb, ob⟩, hxb⟩ : ∃ r, r = atW w s p i d (L[0 + ((m : Int)).toNat]'hmL) := ⟨_, rfl⟩
    rw [← hxb] at a2
    have q3 := sameIn_self xa (by omega) ht
    refine code_sound (more := more8 false _ _) more8_ok FOK.wide _ ?_
    repeat' ((try conv => whnf); first | (first | refine k3 (fun hb => ?_) fun hb => ?_ | refine k4 (fun hb => ?_) fun hb => ?_) <;> (try rw [List.length_map] at hb) <;> (try (exfalso; omega; done)) | refine And.intro bd ?_ | refine ⟨_, _, getMapN nm, rfl, ?_⟩ | fail)
    refine .inl ⟨_, a1, ?_⟩
    repeat' ((try conv => whnf); first | refine And.intro rfl ?_ | fail)
    refine .inl ⟨_, a2, ?_⟩
    repeat' ((try conv => whnf); first | (first | refine k3 (fun hb => ?_) fun hb => ?_ | refine k4 (fun hb => ?_) fun hb => ?_) <;> (try rw [List.length_map] at hb) <;> (try (exfalso; omega; done)) | refine And.intro rfl ?_ | fail)
    refine .inl ⟨_, q3, ?_⟩
    repeat' ((try conv => whnf); first | (first | refine k3 (fun hb => ?_) fun hb => ?_ | refine k4 (fun hb => ?_) fun hb => ?_) <;> (try rw [List.length_map] at hb) <;> (try (exfalso; omega; done)) | refine k5 (fun hb => ?_) fun hb => ?_ | refine s4 nm ?_ | fail)
    all_goals first
      | (exfalso; subst ht; contradiction)
      | (exfalso; simp_all; done)
      | skip
    exact ⟨m + 1, Le.of (by (repeat' (first | exact trivial | refine And.intro ?_ ?_ | exact Or.inl rfl | fail))) (by (repeat' (first | exact trivial | exact rfl | refine And.intro ?_ ?_ | refine Exists.intro _ (And.intro rfl ?_) | exact Or.inl rfl | fail))) rfl rfl rfl, by omega, by omega⟩
  · rw [hother (L[0 + ((m : Int)).toNat]'hmL) hmi] at a1
    obtain ⟨⟨xb, rb, ob⟩, hxb⟩ : ∃ r, r = atW w s p i d (L[0 + ((m : Int)).toNat]'hmL) := ⟨_, rfl⟩
    rw [← hxb] at a1 a2 lb
    dsimp only at lb
    have q3 := sameIn_self xb (by omega) ht
    refine code_sound (more := more8 false _ _) more8_ok FOK.wide _ ?_
    repeat' ((try conv => whnf); first | (first | refine k3 (fun hb => ?_) fun hb => ?_ | refine k4 (fun hb => ?_) fun hb => ?_) <;> (try rw [List.length_map] at hb) <;> (try (exfalso; omega; done)) | refine And.intro bd ?_ | refine ⟨_, _, getMapN nm, rfl, ?_⟩ | fail)
    refine .inl ⟨_, a1, ?_⟩
    repeat' ((try conv => whnf); first | refine And.intro rfl ?_ | fail)
    refine .inl ⟨_, a2, ?_⟩
    repeat' ((try conv => whnf); first | refine k1 (fun hb => ?_) fun hb => ?_ | (first | refine k3 (fun hb => ?_) fun hb => ?_ | refine k4 (fun hb => ?_) fun hb => ?_) <;> (try rw [List.length_map] at hb) <;> (try (exfalso; omega; done)) | refine And.intro rfl ?_ | fail)
    all_goals first
      | (exfalso; subst ht; contradiction)
      | (exfalso; simp_all; done)
      | skip
    all_goals
      (try conv => whnf)
      refine .inl ⟨_, q3, ?_⟩
      repeat' ((try conv => whnf); first | refine k5 (fun hb => ?_) fun hb => ?_ | refine s4 nm ?_ | fail)
      all_goals first
        | (exfalso; subst ht; contradiction)
        | (exfalso; simp_all; done)
        | skip
    all_goals exact ⟨m + 1, Le.of (by (repeat' (first | exact trivial | refine And.intro ?_ ?_ | exact Or.inl rfl | fail))) (by (repeat' (first | exact trivial | exact rfl | refine And.intro ?_ ?_ | refine Exists.intro _ (And.intro rfl ?_) | exact Or.inl rfl | fail))) rfl rfl rfl, by omega, by omega⟩
end Go.Proofs.Ytmaggokcjcdllaa
/- Records: the law RecordsThere. Conditions: none. -/
namespace Go.Proofs.Ytmaggokcjcdllaa
open Go.Avc
theorem crIn_at {w : Wd} {p d kn : Int} {k : Nat} (hk : (crW w p d kn k).2.2 = true) : ∀ {n : Nat}, k < n → (crIn w p d kn n)[(crIn w p d kn k).length]? = some (crW w p d kn k).1
  | 0, h => by omega
  | n + 1, h => by
    rw [crIn_succ]
    by_cases e : k = n
    · subst e
      rw [if_pos hk, List.getElem?_append_right (Nat.le_refl _)]
      simp
    · have ih := crIn_at hk (n := n) (by omega)
      have hlt : (crIn w p d kn k).length < (crIn w p d kn n).length := (List.getElem?_eq_some_iff.1 ih).1
      rw [List.getElem?_append_left hlt]
      exact ih
theorem atW_false {w : Wd} {s p i d kn : Int} (h : (atW w s p i d kn).2.2 = false) : (atW w s p i d kn).1 = zeroIn := by
  unfold atW at h ⊢
  split
  · split
    · rename_i h1 h2
      rw [if_pos h1, if_pos h2] at h
      cases h
    · rfl
  · rfl
theorem atW_true {w : Wd} {s p i d kn : Int} (h : (atW w s p i d kn).2.2 = true) : askOK w s p i d ∧ (atW w s p i d kn).1.schema = s ∧ (atW w s p i d kn).1.person = p ∧ (atW w s p i d kn).1.item = i ∧ (atW w s p i d kn).1.values.length = nF w.src s + 1 ∧ (atW w s p i d kn).1.values.getD 0 0 = p ∧ (atW w s p i d kn).2.1.length = nF w.src s ∧
    ∀ f : Nat, 0 < f → f < nF w.src s + 1 → atF w.facts (keyW s p i f) d kn = ((atW w s p i d kn).1.values.getD f 0, true) ∧ valOK w.src s f ((atW w s p i d kn).1.values.getD f 0) = true := by
  unfold atW at h ⊢
  by_cases h1 : askOK w s p i d
  · rw [if_pos h1] at h ⊢
    by_cases h2 : goodN (lookW w s p i d kn) (nF w.src s) = nF w.src s
    · rw [if_pos h2]
      refine ⟨h1, rfl, rfl, rfl, by simp, rfl, by simp, fun f hf0 hf1 => ?_⟩
      have h3 := (goodN_spec (lookW w s p i d kn) (nF w.src s)).1 (f - 1) (by omega)
      have e0 : ((f - 1 : Nat) : Int) + 1 = f := by omega
      have e1 : (p :: (List.range (nF w.src s)).map fun j => (lookW w s p i d kn j).1).getD f 0 = (lookW w s p i d kn (f - 1)).1 := by
        obtain ⟨f, rfl⟩ : ∃ g, f = g + 1 := ⟨f - 1, by omega⟩
        have : f < nF w.src s := by omega
        simp [List.getD, this]
      simp only [e1]
      unfold lookW at h3 ⊢
      simp only [e0] at h3 ⊢
      rw [Bool.and_eq_true] at h3
      exact ⟨by rw [← h3.1], h3.2⟩
    · rw [if_neg h2] at h; cases h
  · rw [if_neg h1] at h; cases h
set_option maxRecDepth 20000
set_option maxHeartbeats 4000000
set_option linter.unusedSimpArgs false
attribute [local irreducible] PSub Wp PSpec Le Need Both
attribute [local irreducible] putW atW allW keyP chkF fitsOK atF valOK crIn crRd
theorem there_law (w : Wd) (hs : w.src.sz) (p d kn : Int) : PSpec Try.prog 7 [.agg (encWd w), .int p, .int d, .int kn] (.bool true) := by
  obtain ⟨t, ht⟩ : ∃ t : Bool, t = true := ⟨_, rfl⟩
  have q0 := sane_spec
  rw [← ht] at q0
  have qf := few_spec w hs
  obtain ⟨g, hg⟩ : ∃ g, g = fewW w := ⟨_, rfl⟩
  rw [← hg] at qf
  by_cases hg1 : g = false
  case pos =>
    rw [hg1] at qf
    refine PSpec.of_vc (fun Γ => more8 false Γ.P Γ.fx) (fun Γ => more8_ok) Try.func7 rfl Try.call7 (by simp) ?_
    rintro ⟨P, N, w0, X, β0, fx, y, hy, pk, df⟩ rfl rfl rfl hoff rfl; change y.on = false at hoff
    skip
    refine .inl ⟨_, q0, ?_⟩
    repeat' ((try conv => whnf); first | refine k5 (fun hb => ?_) fun hb => ?_ | fail)
    · refine .inl ⟨_, qf, ?_⟩
      skip
      exact PSub.refl _
    · subst ht; contradiction
  rw [Bool.not_eq_false] at hg1
  have hw := few_of hs (hg ▸ hg1)
  rw [hg1, ← ht] at qf
  have q1 := all_spec w hw p d kn
  have h6 := hw.sc
  have e0 : allW w p d kn = (crIn w p d kn (4 * w.src.schemas.length), crRd w p d kn (4 * w.src.schemas.length)) := by unfold allW; rfl
  rw [e0] at q1
  obtain ⟨LI, hLI⟩ : ∃ x, x = crIn w p d kn (4 * w.src.schemas.length) := ⟨_, rfl⟩
  obtain ⟨LR, hLR⟩ : ∃ x, x = crRd w p d kn (4 * w.src.schemas.length) := ⟨_, rfl⟩
  rw [← hLI, ← hLR] at q1
  have m2 := crIn_len w p d kn (4 * w.src.schemas.length)
  have m3 := crRd_len hw p d kn (4 * w.src.schemas.length)
  have hsl : (w.src.schemas.map encSc).length = w.src.schemas.length := List.length_map ..
  have hil : (LI.map encIn).length = LI.length := List.length_map ..
  have hrl : (LR.map encRd).length = LR.length := List.length_map ..
  rw [← hLI] at m2
  rw [← hLR] at m3
  clear e0
  refine PSpec.of_vc (fun Γ => more8 false Γ.P Γ.fx) (fun Γ => more8_ok) Try.func7 rfl Try.call7 (by simp) ?_
  rintro ⟨P, N, w0, X, β0, fx, y, hy, pk, df⟩ rfl rfl rfl hoff rfl; change y.on = false at hoff
  skip
  refine .inl ⟨_, q0, ?_⟩
  repeat' ((try conv => whnf); first | refine k5 (fun hb => ?_) fun hb => ?_ | fail)
  all_goals first
    | (exfalso; subst ht; contradiction)
    | (exfalso; simp_all; done)
    | skip
  refine .inl ⟨_, qf, ?_⟩
  repeat' ((try conv => whnf); first | refine k5 (fun hb => ?_) fun hb => ?_ | fail)
  all_goals first
    | (exfalso; subst ht; contradiction)
    | (exfalso; simp_all; done)
    | skip
  refine .inl ⟨_, q1, ?_⟩
  repeat' ((try conv => whnf); first | refine And.intro rfl ?_ | fail)
  refine Wp.loop (fun i : Nat => ⟨[(1, .int p), (2, .int d), (3, .int kn), (4, .loc 4 0 0), (9, .pure (.sl 4 (LI.map encIn))), (10, .pure (encRds LR)), (11, .int (crIn w p d kn (4 * i)).length), (12, .int (crRd w p d kn (4 * i)).length), (38, .pure (.sl 6 (w.src.schemas.map encSc))), (39, .int w.src.schemas.length), (40, .int i)],
      [(4, some (.box (pures (encWd w))))], [4]⟩) (fun i => i ≤ w.src.schemas.length) (fun i => w.src.schemas.length - i) 0 (Le.of ?_ ?_ rfl rfl rfl) (by omega) ?_
  · have z1 : (crIn w p d kn (4 * 0)).length = 0 := by unfold crIn; rfl
    have z2 : (crRd w p d kn (4 * 0)).length = 0 := by unfold crRd; rfl
    rw [z1, z2]
    (repeat' (first | exact trivial | refine And.intro ?_ ?_ | exact Or.inl rfl | exact l1 bd | fail))
  · (repeat' (first | exact trivial | refine And.intro ?_ ?_ | refine Exists.intro _ (And.intro rfl ?_) | exact Or.inl rfl | fail))
  intro i hi
  by_cases hi2 : i < w.src.schemas.length
  case neg =>
    have e : i = w.src.schemas.length := by omega
    subst e
    rw [← hLI, ← hLR]
    refine code_sound (more := more8 false _ _) more8_ok FOK.wide _ ?_
    repeat' ((try conv => whnf); first | (first | refine k3 (fun hb => ?_) fun hb => ?_ | refine k4 (fun hb => ?_) fun hb => ?_) <;> (try rw [List.length_map] at hb) <;> (try (exfalso; omega; done)) | fail)
    all_goals first
      | exact PSub.val_bool (decide_eq_true (by omega))
      | (exfalso; omega)
  have h6f := hw.fd _ (List.getElem_mem hi2)
  have hfl : (w.src.schemas[i].fields.map encFd).length = w.src.schemas[i].fields.length := List.length_map ..
  have hnF := nF_at hi2
  refine code_sound (more := more8 false _ _) more8_ok FOK.wide _ ?_
  repeat' ((try conv => whnf); first | (first | refine k3 (fun hb => ?_) fun hb => ?_ | refine k4 (fun hb => ?_) fun hb => ?_) <;> (try rw [List.length_map] at hb) <;> (try (exfalso; omega; done)) | refine And.intro rfl ?_ | refine s5 nm nm ?_ | fail)
  refine Wp.loop (fun j : Nat => ⟨[(1, .int p), (2, .int d), (3, .int kn), (4, .loc 4 0 0), (9, .pure (.sl 4 (LI.map encIn))), (10, .pure (encRds LR)), (11, .int (crIn w p d kn (4 * i + j)).length), (12, .int (crRd w p d kn (4 * i + j)).length), (13, .int i), (14, .loc 14 0 0), (38, .pure (.sl 6 (w.src.schemas.map encSc))), (39, .int w.src.schemas.length), (40, .int i), (45, .int j)],
      [(4, some (.box (pures (encWd w)))), (14, some (.box (pures (encSc w.src.schemas[i]))))], [4, 14]⟩) (fun j => j ≤ 4) (fun j => 4 - j) 0 (Le.of ?_ ?_ rfl rfl rfl) (by omega) ?_
  · (repeat' (first | exact trivial | refine And.intro ?_ ?_ | exact Or.inl rfl | fail))
  · (repeat' (first | exact trivial | refine And.intro ?_ ?_ | refine Exists.intro _ (And.intro rfl ?_) | exact Or.inl rfl | fail))
  intro j hj
  by_cases hj2 : j < 4
  case neg =>
    have e : j = 4 := by omega
    subst e
    refine code_sound (more := more8 false _ _) more8_ok FOK.wide _ ?_
    repeat' ((try conv => whnf); first | refine s4 nm ?_ | fail)
    refine ⟨i + 1, Le.of ?_ (by (repeat' (first | exact trivial | refine And.intro ?_ ?_ | refine Exists.intro _ (And.intro rfl ?_) | exact Or.inl rfl | fail))) rfl rfl rfl, by omega, by omega⟩
    rw [show 4 * (i + 1) = 4 * i + 4 from rfl]
    (repeat' (first | exact trivial | refine And.intro ?_ ?_ | exact Or.inl rfl | fail))
  have q2 := atw_spec w hw i p j d kn
  have e1 := crIn_succ w p d kn (4 * i + j)
  have e2 := crRd_succ w p d kn (4 * i + j)
  have n1 := crIn_len w p d kn (4 * i + j)
  have n2 := crRd_len hw p d kn (4 * i + j)
  have n3 := atW_len hw i p j d kn
  have n4 := atW_vals hw i p j d kn
  have hcr := crW_at w p d kn i hj2
  rw [hcr] at e1 e2
  rw [Nat.add_assoc] at e1 e2
  by_cases hok : (atW w i p j d kn).2.2 = false
  case pos =>
    have hz := atW_false hok
    obtain ⟨⟨x, rd, b⟩, hx⟩ : ∃ x, x = atW w i p j d kn := ⟨_, rfl⟩
    rw [← hx] at q2 e1 e2 n3 hok hz
    dsimp only at n3 hok hz
    subst hok; subst hz
    replace q2 : PSpec Try.prog 12 [.agg (encWd w), .int i, .int p, .int j, .int d, .int kn] (.tup [.agg (encIn zeroIn), encRds rd, .bool false]) := q2
    dsimp only at e2
    simp only [Bool.false_eq_true, if_false, List.append_nil] at e1
    have g1 := congrArg List.length e1
    have g2 := congrArg List.length e2
    rw [List.length_append] at g2
    have q3 := (sameIn_self zeroIn (by decide) ht).args (args := [.agg (encIn zeroIn), .agg [.val (.int .i64 0), .val (.int .i64 0), .val (.int .i64 0), .val (.slice none 0 0)]]) ⟨PSub.refl _, zeroIn_sub, trivial⟩
    have hrl2 : (rd.map encRd).length = rd.length := List.length_map ..
    clear e1 e2
    refine code_sound (more := more8 false _ _) more8_ok FOK.wide _ ?_
    repeat' ((try conv => whnf); first | (first | refine k3 (fun hb => ?_) fun hb => ?_ | refine k4 (fun hb => ?_) fun hb => ?_) <;> (try rw [List.length_map] at hb) <;> (try (exfalso; omega; done)) | fail)
    refine .inl ⟨_, q2, ?_⟩
    repeat' ((try conv => whnf); first | refine And.intro rfl ?_ | refine s4 nm ?_ | fail)
    refine .inl ⟨_, q3, ?_⟩
    repeat' ((try conv => whnf); first | refine k5 (fun hb => ?_) fun hb => ?_ | refine s4 nm ?_ | fail)
    all_goals first
      | (exfalso; subst ht; contradiction)
      | (exfalso; simp_all; done)
      | skip
    refine ⟨j + 1, Le.of ?_ (by (repeat' (first | exact trivial | refine And.intro ?_ ?_ | refine Exists.intro _ (And.intro rfl ?_) | exact Or.inl rfl | fail))) rfl rfl rfl, by omega, by omega⟩
    rw [g1, g2]
    (repeat' (first | exact trivial | refine And.intro ?_ ?_ | exact Or.inl rfl | exact l1 bd | fail))
  rw [Bool.not_eq_false] at hok
  obtain ⟨ha, hx1, hx2, hx3, hx4, hx5, hx6, hx7⟩ := atW_true hok
  have hat := crIn_at (w := w) (p := p) (d := d) (kn := kn) (k := 4 * i + j) (by rw [hcr]; exact hok) (n := 4 * w.src.schemas.length) (by omega)
  rw [hcr, ← hLI] at hat
  obtain ⟨⟨x, rd, b⟩, hx⟩ : ∃ x, x = atW w i p j d kn := ⟨_, rfl⟩
  rw [← hx] at q2 e1 e2 n3 n4 hok hx1 hx2 hx3 hx4 hx5 hx6 hx7 hat
  dsimp only at n3 n4 hok hx1 hx2 hx3 hx4 hx5 hx6 hx7 hat
  obtain ⟨xs, xp, xi, xv⟩ := x
  dsimp only at n4 hx1 hx2 hx3 hx4 hx5 hx7
  subst hok; subst hx1; subst hx2; subst hx3
  replace q2 : PSpec Try.prog 12 [.agg (encWd w), .int i, .int xp, .int j, .int d, .int kn] (.tup [.agg [.int i, .int xp, .int j, encIs xv], encRds rd, .bool true]) := q2
  dsimp only at e2
  simp only [if_true] at e1
  have g1 := congrArg List.length e1
  have g2 := congrArg List.length e2
  rw [List.length_append] at g1 g2
  rw [List.length_singleton] at g1
  obtain ⟨c1, hc1⟩ : ∃ c, c = (crIn w xp d kn (4 * i + j)).length := ⟨_, rfl⟩
  obtain ⟨c2, hc2⟩ : ∃ c, c = (crRd w xp d kn (4 * i + j)).length := ⟨_, rfl⟩
  rw [← hc1] at hat g1 n1 ⊢
  rw [← hc2] at g2 n2 ⊢
  obtain ⟨hlt, hget⟩ := List.getElem?_eq_some_iff.1 hat
  have q3 : PSpec Try.prog 14 [.agg (encIn LI[c1]), .agg [.int i, .int xp, .int j, encIs xv]] (.bool t) := by rw [hget]; exact sameIn_self ⟨i, xp, j, xv⟩ (by simp only; omega) ht
  have v0 : ∀ (h : Int.toNat 0 < xv.length), xv[Int.toNat 0]'h = xp := fun h => by have h' : 0 < xv.length := h; rw [← hx5]; simp [List.getD, h']
  have hrl2 : (rd.map encRd).length = rd.length := List.length_map ..
  have hvl : (xv.map fun x => [PV.int x]).length = xv.length := List.length_map ..
  have hf2 : 2 ≤ w.src.schemas[i].fields.length := by
    rcases rec_cases w.src i with ⟨k, hk, e, h2, _⟩ | ⟨_, hrf⟩
    · obtain rfl : i = k := by omega
      exact h2
    · have := ha.1; rw [hrf] at this; cases this
  clear e1 e2
  have hrow : (LI.map encIn)[c1]? = some (encIn ⟨i, xp, j, xv⟩) := by rw [List.getElem?_map, hat]; rfl
  refine code_sound (more := more8 false _ _) more8_ok FOK.wide _ ?_
  repeat' ((try conv => whnf); first | (first | refine k3 (fun hb => ?_) fun hb => ?_ | refine k4 (fun hb => ?_) fun hb => ?_) <;> (try rw [List.length_map] at hb) <;> (try (exfalso; omega; done)) | fail)
  refine .inl ⟨_, q2, ?_⟩
  repeat' ((try conv => whnf); first | refine And.intro rfl ?_ | refine s4 nm ?_ | fail)
  refine Wp.draw (more := more8 true _ _) more8_det more8_ok FOK.wide rfl (by decide +kernel) (by conv => lhs; reduce) ?_
  repeat' ((try conv => whnf); first | (first | refine k3 (fun hb => ?_) fun hb => ?_ | refine k4 (fun hb => ?_) fun hb => ?_) <;> (try rw [List.length_map] at hb) <;> (try (exfalso; omega; done)) | refine s5 nm nm ?_ | fail)
  refine ⟨_, q3, ?_⟩
  repeat' ((try conv => whnf); first | (first | refine k3 (fun hb => ?_) fun hb => ?_ | refine k4 (fun hb => ?_) fun hb => ?_) <;> (try rw [List.length_map] at hb) <;> (try (exfalso; omega; done)) | refine k5 (fun hb => ?_) fun hb => ?_ | refine s4 nm ?_ | refine s5 nm nm ?_ | fail)
  all_goals first
    | (exfalso; subst ht; contradiction)
    | (exfalso; simp_all; done)
    | skip
  all_goals first
    | (exfalso; dsimp only at *; omega)
    | skip
  refine Wp.loop (fun k : Nat => ⟨[(1, .int xp), (2, .int d), (3, .int kn), (4, .loc 4 0 0), (9, .pure (.sl 4 (LI.map encIn))), (10, .pure (encRds LR)), (11, .int c1), (12, .int (c2 + rd.length)), (13, .int i), (14, .loc 14 0 0), (15, .int j), (16, .loc 16 0 0), (19, .int ((k : Int) + 1)), (38, .pure (.sl 6 (w.src.schemas.map encSc))), (39, .int w.src.schemas.length), (40, .int i), (45, .int j)],
      [(4, some (.box (pures (encWd w)))), (14, some (.box (pures (encSc w.src.schemas[i])))), (16, some (.box [.int i, .int xp, .int j, .pure (encIs xv)]))], [4, 14, 16]⟩) (fun k => k < xv.length) (fun k => xv.length - k) 0 (Le.of ?_ ?_ rfl rfl rfl) (by omega) ?_
  · (repeat' (first | exact trivial | refine And.intro ?_ ?_ | exact Or.inl rfl | exact l1 bd | fail))
  · (repeat' (first | exact trivial | refine And.intro ?_ ?_ | refine Exists.intro _ (And.intro rfl ?_) | exact Or.inl rfl | fail))
  intro k hk
  by_cases hk2 : k + 1 < xv.length
  · obtain ⟨y1, y2⟩ := hx7 (k + 1) (by omega) (by omega)
    have ev : xv.getD (k + 1) 0 = xv[((k : Int) + 1).toNat]'(by omega) := by
      have e0 : ((k : Int) + 1).toNat = k + 1 := by omega
      simp only [e0]
      simp [List.getD, hk2]
    have ek : ((k + 1 : Nat) : Int) = (k : Int) + 1 := by omega
    rw [ev, ek] at y1 y2
    have qk := Key_spec i xp j ((k : Int) + 1)
    have hkp : keyP i xp j ((k : Int) + 1) = keyW i xp j ((k : Int) + 1) := by
      unfold keyP
      rw [if_pos (show keyOK _ _ _ _ from ⟨by omega, by omega, ha.2.1, ha.2.2.1, by omega, by omega, by omega, by omega⟩)]
    rw [hkp] at qk
    have qa := at_spec w.facts (keyW i xp j ((k : Int) + 1)) d kn (by have := hw.fa; omega)
    have qv := value_spec w.src hs i ((k : Int) + 1) (xv[((k : Int) + 1).toNat]'(by omega))
    rw [y1] at qa
    rw [y2, ← ht] at qv
    refine code_sound (more := more8 false _ _) more8_ok FOK.wide _ ?_
    repeat' ((try conv => whnf); first | (first | refine k3 (fun hb => ?_) fun hb => ?_ | refine k4 (fun hb => ?_) fun hb => ?_) <;> (try rw [List.length_map] at hb) <;> (try (exfalso; omega; done)) | fail)
    refine Wp.draw (more := more8 true _ _) more8_det more8_ok FOK.wide rfl (by decide +kernel) (by conv => lhs; reduce) ?_
    skip
    refine ⟨_, qk, ?_⟩
    repeat' ((try conv => whnf); first | refine And.intro rfl ?_ | fail)
    refine ⟨_, qa, ?_⟩
    repeat' ((try conv => whnf); first | (first | refine k3 (fun hb => ?_) fun hb => ?_ | refine k4 (fun hb => ?_) fun hb => ?_) <;> (try rw [List.length_map] at hb) <;> (try (exfalso; omega; done)) | refine s5 nm nm ?_ | fail)
    all_goals first
      | (exfalso; exact absurd rfl (by assumption))
      | skip
    refine .inl ⟨_, qv, ?_⟩
    repeat' ((try conv => whnf); first | refine k5 (fun hb => ?_) fun hb => ?_ | refine s4 nm ?_ | fail)
    all_goals first
      | (exfalso; subst ht; contradiction)
      | (exfalso; simp_all; done)
      | skip
    exact ⟨k + 1, Le.of (by (repeat' (first | exact trivial | refine And.intro ?_ ?_ | exact Or.inl rfl | fail))) (by (repeat' (first | exact trivial | refine And.intro ?_ ?_ | refine Exists.intro _ (And.intro rfl ?_) | exact Or.inl rfl | fail))) rfl rfl rfl, by omega, by omega⟩
  · refine code_sound (more := more8 false _ _) more8_ok FOK.wide _ ?_
    repeat' ((try conv => whnf); first | (first | refine k3 (fun hb => ?_) fun hb => ?_ | refine k4 (fun hb => ?_) fun hb => ?_) <;> (try rw [List.length_map] at hb) <;> (try (exfalso; omega; done)) | refine s4 nm ?_ | fail)
    refine ⟨j + 1, Le.of ?_ (by (repeat' (first | exact trivial | refine And.intro ?_ ?_ | refine Exists.intro _ (And.intro rfl ?_) | exact Or.inl rfl | fail))) rfl rfl rfl, by omega, by omega⟩
    rw [g1, g2]
    (repeat' (first | exact trivial | refine And.intro ?_ ?_ | exact Or.inl rfl | fail))
end Go.Proofs.Ytmaggokcjcdllaa
