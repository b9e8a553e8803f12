/- Facts: the reference compares points and changes; its Alike. Conditions: none. -/
import Derived.Test.YtinhhmnnfbeimaaWd
import Derived.Test.YtinhhmnnfbeimaaWj
set_option linter.unusedSimpArgs false
set_option linter.unusedVariables false
namespace Go.Proofs.Ytinhhmnnfbeimaa
open Go.Avc
def vPt (p : Int × Int) : List Value := [.int .i64 p.1, .int .i64 p.2]
theorem ptEq (a b : Int × Int) : aggEq Try.prog 60 (vPt a).toArray (vPt b).toArray (decide (a = b)) :=
  structEq (d := 3) (ls := [.i .i64, .i .i64]) (by kernel_rfl) (by omega) (by kernel_rfl) (xs := vPt a) (ys := vPt b) ⟨rfl, rfl, trivial⟩ ⟨rfl, rfl, trivial⟩ (by
    obtain ⟨a1, a2⟩ := a; obtain ⟨b1, b2⟩ := b
    simp [vPt])
theorem spEq (a b : Int × Int) : aggEq Try.prog 26 (vPt a).toArray (vPt b).toArray (decide (a = b)) :=
  structEq (d := 3) (ls := [.i .i64, .i .i64]) (by kernel_rfl) (by omega) (by kernel_rfl) (xs := vPt a) (ys := vPt b) ⟨rfl, rfl, trivial⟩ ⟨rfl, rfl, trivial⟩ (by
    obtain ⟨a1, a2⟩ := a; obtain ⟨b1, b2⟩ := b
    simp [vPt])
set_option maxRecDepth 20000
set_option maxHeartbeats 4000000
set_option linter.unusedSimpArgs false
attribute [local irreducible] PSub Wp PSpec Le Need Both
theorem sameP_spec (a b : List (Int × Int)) (ha : a.length ≤ 1000000) (hb : b.length ≤ 1000000) : PSpec Try.prog 20 [encPts a, encPts b] (.bool (decide (a = b))) := by
    have hlb : (b.map encPt).length = b.length := List.length_map ..
    have hla : (a.map encPt).length = a.length := List.length_map ..
    by_cases hl : a.length = b.length
    · refine PSpec.of_vc (fun Γ => more8 false Γ.P Γ.fx) (fun Γ => more8_ok) Try.func20 rfl Try.call20 (by simp) ?_
      rintro ⟨P, N, w0, X, β0, fx, y, hy, pk, df⟩ rfl rfl rfl hoff rfl; change y.on = false at hoff
      repeat' ((try conv => whnf); first | (first | refine k3 (fun hb => ?_) fun hb => ?_ | refine k4 (fun hb => ?_) fun hb => ?_) <;> (try rw [List.length_map] at hb) <;> (try (exfalso; omega; done)) | fail)
      refine Wp.loop (fun k : Nat => ⟨[(0, .pure (.sl 2 (a.map encPt))), (1, .pure (.sl 2 (b.map encPt))), (5, .int k)], [], []⟩) (fun k => k ≤ a.length ∧ ∀ j (h1 : j < a.length) (h2 : j < b.length), j < k → a[j] = b[j]) (fun k => a.length - k) 0 (Le.of ?_ ?_ rfl rfl rfl) ⟨by omega, fun j _ _ h => by omega⟩ ?_
      · (repeat' (first | exact trivial | refine And.intro ?_ ?_ | exact Or.inl rfl | fail))
      · (repeat' (first | exact trivial | fail))
      intro k ⟨hk, ho⟩
      by_cases hk2 : k < a.length
      · have hk3 : k < b.length := by omega
        have q := ptEq a[k] b[k]
        by_cases hp : a[k] = b[k]
        · rw [decide_eq_true hp] at q
          refine code_sound (more := more8 false _ _) more8_ok FOK.wide _ ?_
          repeat' ((try conv => whnf); first | (first | refine k3 (fun hb => ?_) fun hb => ?_ | refine k4 (fun hb => ?_) fun hb => ?_) <;> (try rw [List.length_map] at hb) <;> (try (exfalso; omega; done)) | fail)
          refine Wp.draw (more := more8 true _ _) more8_det more8_ok FOK.wide rfl (by decide +kernel) (by conv => lhs; reduce) ?_
          repeat' ((try conv => whnf); first | refine s5 nm nm ?_ | fail)
          refine ⟨_, q, by first | exact isAg | exact isAp, by first | exact isAg | exact isAp, ?_⟩
          repeat' ((try conv => whnf); first | refine s4 nm ?_ | fail)
          refine ⟨k + 1, Le.of (by (repeat' (first | exact trivial | refine And.intro ?_ ?_ | exact Or.inl rfl | fail))) (by (repeat' (first | exact trivial | fail))) rfl rfl rfl, ⟨by omega, fun j h1 h2 hjk => ?_⟩, by omega⟩
          by_cases e : j = k
          · subst e; exact hp
          · exact ho j h1 h2 (by omega)
        · rw [decide_eq_false hp] at q
          have hne : a ≠ b := fun h => hp (by subst h; rfl)
          rw [decide_eq_false hne]
          refine code_sound (more := more8 false _ _) more8_ok FOK.wide _ ?_
          repeat' ((try conv => whnf); first | (first | refine k3 (fun hb => ?_) fun hb => ?_ | refine k4 (fun hb => ?_) fun hb => ?_) <;> (try rw [List.length_map] at hb) <;> (try (exfalso; omega; done)) | fail)
          refine Wp.draw (more := more8 true _ _) more8_det more8_ok FOK.wide rfl (by decide +kernel) (by conv => lhs; reduce) ?_
          repeat' ((try conv => whnf); first | refine s5 nm nm ?_ | fail)
          refine ⟨_, q, by first | exact isAg | exact isAp, by first | exact isAg | exact isAp, ?_⟩
          skip
          exact PSub.refl _
      · have e : a = b := eq_at hl fun j h1 h2 => ho j h1 h2 (by omega)
        rw [decide_eq_true e]
        refine code_sound (more := more8 false _ _) more8_ok FOK.wide _ ?_
        repeat' ((try conv => whnf); first | (first | refine k3 (fun hb => ?_) fun hb => ?_ | refine k4 (fun hb => ?_) fun hb => ?_) <;> (try rw [List.length_map] at hb) <;> (try (exfalso; omega; done)) | fail)
        exact PSub.refl _
    · have hne : a ≠ b := fun h => hl (by rw [h])
      rw [decide_eq_false hne]
      refine PSpec.of_vc (fun Γ => more8 false Γ.P Γ.fx) (fun Γ => more8_ok) Try.func20 rfl Try.call20 (by simp) ?_
      rintro ⟨P, N, w0, X, β0, fx, y, hy, pk, df⟩ rfl rfl rfl hoff rfl; change y.on = false at hoff
      repeat' ((try conv => whnf); first | (first | refine k3 (fun hb => ?_) fun hb => ?_ | refine k4 (fun hb => ?_) fun hb => ?_) <;> (try rw [List.length_map] at hb) <;> (try (exfalso; omega; done)) | fail)
      exact PSub.refl _
theorem sameD_spec (a b : List Df) (ha : a.length ≤ 1000000) (hb : b.length ≤ 1000000) (ha2 : ∀ x ∈ a, x.2.length ≤ 1000000) (hb2 : ∀ x ∈ b, x.2.length ≤ 1000000) : PSpec Try.prog 23 [encDfs a, encDfs b] (.bool (decide (a = b))) := by
  have hlb : (b.map encDf).length = b.length := List.length_map ..
  have hla : (a.map encDf).length = a.length := List.length_map ..
  by_cases hl : a.length = b.length
  · refine PSpec.of_vc (fun Γ => more8 false Γ.P Γ.fx) (fun Γ => more8_ok) Try.func23 rfl Try.call23 (by simp) ?_
    rintro ⟨P, N, w0, X, β0, fx, y, hy, pk, df⟩ rfl rfl rfl hoff rfl; change y.on = false at hoff
    repeat' ((try conv => whnf); first | (first | refine k3 (fun hb => ?_) fun hb => ?_ | refine k4 (fun hb => ?_) fun hb => ?_) <;> (try rw [List.length_map] at hb) <;> (try (exfalso; omega; done)) | fail)
    refine Wp.loop (fun k : Nat => ⟨[(0, .pure (encDfs a)), (1, .pure (encDfs b)), (5, .int k)], [], []⟩) (fun k => k ≤ a.length ∧ ∀ j (h1 : j < a.length) (h2 : j < b.length), j < k → a[j] = b[j]) (fun k => a.length - k) 0 (Le.of ?_ ?_ rfl rfl rfl) ⟨by omega, fun j _ _ h => by omega⟩ ?_
    · (repeat' (first | exact trivial | refine And.intro ?_ ?_ | exact Or.inl rfl | fail))
    · (repeat' (first | exact trivial | fail))
    intro k ⟨hk, ho⟩
    by_cases hk2 : k < a.length
    · have hk3 : k < b.length := by omega
      have q := kyEq a[k].1 b[k].1
      have hDl := ha2 a[k] (List.getElem_mem _)
      have hEl := hb2 b[k] (List.getElem_mem _)
      have hDm : (a[k].2.map encPt).length = a[k].2.length := List.length_map ..
      have hEm : (b[k].2.map encPt).length = b[k].2.length := List.length_map ..
      by_cases hp : a[k].1 = b[k].1
      · rw [decide_eq_true hp] at q
        by_cases hle : a[k].2.length = b[k].2.length
        · refine code_sound (more := more8 false _ _) more8_ok FOK.wide _ ?_
          repeat' ((try conv => whnf); first | (first | refine k3 (fun hb => ?_) fun hb => ?_ | refine k4 (fun hb => ?_) fun hb => ?_) <;> (try rw [List.length_map] at hb) <;> (try (exfalso; omega; done)) | fail)
          refine Wp.draw (more := more8 true _ _) more8_det more8_ok FOK.wide rfl (by decide +kernel) (by conv => lhs; reduce) ?_
          repeat' ((try conv => whnf); first | refine s5 nm nm ?_ | fail)
          refine ⟨_, q, by first | exact isAg | exact isAp, by first | exact isAg | exact isAp, ?_⟩
          repeat' ((try conv => whnf); first | (first | refine k3 (fun hb => ?_) fun hb => ?_ | refine k4 (fun hb => ?_) fun hb => ?_) <;> (try rw [List.length_map] at hb) <;> (try (exfalso; omega; done)) | refine s5 nm nm ?_ | fail)
          refine Wp.loop (fun m : Nat => ⟨[(0, .pure (encDfs a)), (1, .pure (encDfs b)), (5, .int k), (6, .int m)], [], []⟩) (fun m => m ≤ a[k].2.length ∧ ∀ j (h1 : j < a[k].2.length) (h2 : j < b[k].2.length), j < m → a[k].2[j] = b[k].2[j]) (fun m => a[k].2.length - m) 0 (Le.of ?_ ?_ rfl rfl rfl) ⟨by omega, fun j _ _ h => by omega⟩ ?_
          · (repeat' (first | exact trivial | refine And.intro ?_ ?_ | exact Or.inl rfl | fail))
          · (repeat' (first | exact trivial | fail))
          intro m ⟨hm, hom⟩
          by_cases hm2 : m < a[k].2.length
          · have hm3 : m < b[k].2.length := by omega
            have q2 := spEq a[k].2[m] b[k].2[m]
            by_cases hpe : a[k].2[m] = b[k].2[m]
            · rw [decide_eq_true hpe] at q2
              refine code_sound (more := more8 false _ _) more8_ok FOK.wide _ ?_
              repeat' ((try conv => whnf); first | (first | refine k3 (fun hb => ?_) fun hb => ?_ | refine k4 (fun hb => ?_) fun hb => ?_) <;> (try rw [List.length_map] at hb) <;> (try (exfalso; omega; done)) | refine s5 nm nm ?_ | fail)
              refine Wp.draw (more := more8 true _ _) more8_det more8_ok FOK.wide rfl (by decide +kernel) (by conv => lhs; reduce) ?_
              repeat' ((try conv => whnf); first | refine s5 nm nm ?_ | fail)
              refine ⟨_, q2, by first | exact isAg | exact isAp, by first | exact isAg | exact isAp, ?_⟩
              repeat' ((try conv => whnf); first | refine s4 nm ?_ | fail)
              refine ⟨m + 1, Le.of (by (repeat' (first | exact trivial | refine And.intro ?_ ?_ | exact Or.inl rfl | fail))) (by (repeat' (first | exact trivial | fail))) rfl rfl rfl, ⟨by omega, fun j h1 h2 hjk => ?_⟩, by omega⟩
              by_cases e : j = m
              · subst e; exact hpe
              · exact hom j h1 h2 (by omega)
            · rw [decide_eq_false hpe] at q2
              have hne : a ≠ b := (fun h => hpe (by simp only [h]))
              rw [decide_eq_false hne]
              refine code_sound (more := more8 false _ _) more8_ok FOK.wide _ ?_
              repeat' ((try conv => whnf); first | (first | refine k3 (fun hb => ?_) fun hb => ?_ | refine k4 (fun hb => ?_) fun hb => ?_) <;> (try rw [List.length_map] at hb) <;> (try (exfalso; omega; done)) | refine s5 nm nm ?_ | fail)
              refine Wp.draw (more := more8 true _ _) more8_det more8_ok FOK.wide rfl (by decide +kernel) (by conv => lhs; reduce) ?_
              repeat' ((try conv => whnf); first | refine s5 nm nm ?_ | fail)
              refine ⟨_, q2, by first | exact isAg | exact isAp, by first | exact isAg | exact isAp, ?_⟩
              skip
              exact PSub.refl _
          · have e : a[k].2 = b[k].2 := eq_at hle fun j h1 h2 => hom j h1 h2 (by omega)
            refine code_sound (more := more8 false _ _) more8_ok FOK.wide _ ?_
            repeat' ((try conv => whnf); first | (first | refine k3 (fun hb => ?_) fun hb => ?_ | refine k4 (fun hb => ?_) fun hb => ?_) <;> (try rw [List.length_map] at hb) <;> (try (exfalso; omega; done)) | refine s4 nm ?_ | refine s5 nm nm ?_ | fail)
            refine ⟨k + 1, Le.of (by (repeat' (first | exact trivial | refine And.intro ?_ ?_ | exact Or.inl rfl | fail))) (by (repeat' (first | exact trivial | fail))) rfl rfl rfl, ⟨by omega, fun j h1 h2 hjk => ?_⟩, by omega⟩
            by_cases e2 : j = k
            · subst e2; exact Prod.ext hp e
            · exact ho j h1 h2 (by omega)
        · have hne : a ≠ b := (fun h => hle (by simp only [h]))
          rw [decide_eq_false hne]
          refine code_sound (more := more8 false _ _) more8_ok FOK.wide _ ?_
          repeat' ((try conv => whnf); first | (first | refine k3 (fun hb => ?_) fun hb => ?_ | refine k4 (fun hb => ?_) fun hb => ?_) <;> (try rw [List.length_map] at hb) <;> (try (exfalso; omega; done)) | fail)
          refine Wp.draw (more := more8 true _ _) more8_det more8_ok FOK.wide rfl (by decide +kernel) (by conv => lhs; reduce) ?_
          repeat' ((try conv => whnf); first | refine s5 nm nm ?_ | fail)
          refine ⟨_, q, by first | exact isAg | exact isAp, by first | exact isAg | exact isAp, ?_⟩
          repeat' ((try conv => whnf); first | (first | refine k3 (fun hb => ?_) fun hb => ?_ | refine k4 (fun hb => ?_) fun hb => ?_) <;> (try rw [List.length_map] at hb) <;> (try (exfalso; omega; done)) | refine s5 nm nm ?_ | fail)
          exact PSub.refl _
      · rw [decide_eq_false hp] at q
        have hne : a ≠ b := (fun h => hp (by simp only [h]))
        rw [decide_eq_false hne]
        refine code_sound (more := more8 false _ _) more8_ok FOK.wide _ ?_
        repeat' ((try conv => whnf); first | (first | refine k3 (fun hb => ?_) fun hb => ?_ | refine k4 (fun hb => ?_) fun hb => ?_) <;> (try rw [List.length_map] at hb) <;> (try (exfalso; omega; done)) | fail)
        refine Wp.draw (more := more8 true _ _) more8_det more8_ok FOK.wide rfl (by decide +kernel) (by conv => lhs; reduce) ?_
        repeat' ((try conv => whnf); first | refine s5 nm nm ?_ | fail)
        refine ⟨_, q, by first | exact isAg | exact isAp, by first | exact isAg | exact isAp, ?_⟩
        skip
        exact PSub.refl _
    · have e : a = b := eq_at hl fun j h1 h2 => ho j h1 h2 (by omega)
      rw [decide_eq_true e]
      refine code_sound (more := more8 false _ _) more8_ok FOK.wide _ ?_
      repeat' ((try conv => whnf); first | (first | refine k3 (fun hb => ?_) fun hb => ?_ | refine k4 (fun hb => ?_) fun hb => ?_) <;> (try rw [List.length_map] at hb) <;> (try (exfalso; omega; done)) | fail)
      exact PSub.refl _
  · have hne : a ≠ b := (fun h => hl (by rw [h]))
    rw [decide_eq_false hne]
    refine PSpec.of_vc (fun Γ => more8 false Γ.P Γ.fx) (fun Γ => more8_ok) Try.func23 rfl Try.call23 (by simp) ?_
    rintro ⟨P, N, w0, X, β0, fx, y, hy, pk, df⟩ rfl rfl rfl hoff rfl; change y.on = false at hoff
    repeat' ((try conv => whnf); first | (first | refine k3 (fun hb => ?_) fun hb => ?_ | refine k4 (fun hb => ?_) fun hb => ?_) <;> (try rw [List.length_map] at hb) <;> (try (exfalso; omega; done)) | fail)
    exact PSub.refl _
attribute [local irreducible] Fa.bef atF pntL diffF alikeR ptsF
theorem ptsF_len (l : List Fa) (k : Ky) (lo hi kn : Int) : (ptsF l k lo hi kn).length ≤ 1024 := by
  have := ptsN_len l k (max 0 lo) (min hi 1024 - max 0 lo).toNat kn
  unfold ptsF
  omega
theorem ralike_spec (l : List Fa) (rds : List Rd) (b a : Int) (hl : l.length ≤ 100000) (hr : rds.length ≤ 1000000) : PSpec Try.prog 27 [encFs l, encRds rds, .int b, .int a] (.bool (alikeF l rds b a)) := by
  have hrl : (rds.map encRd).length = rds.length := List.length_map ..
  obtain ⟨res, hres⟩ : ∃ r, r = alikeF l rds b a := ⟨_, rfl⟩
  rw [← hres]
  have hbad : ∀ i (h : i < rds.length), ¬ alikeR l b a rds[i] → PSub (.val (.bool false)) (.bool res) := fun i h hn => by
    have e : res = false := by
      rw [hres, Bool.eq_false_iff]
      intro h'
      unfold alikeF at h'
      rw [List.all_eq_true] at h'
      exact hn (of_decide_eq_true (h' _ (List.getElem_mem h)))
    rw [e]; exact PSub.refl _
  have hall : (∀ i (h : i < rds.length), alikeR l b a rds[i]) → PSub (.val (.bool true)) (.bool res) := fun h => by
    have e : res = true := by
      rw [hres]
      unfold alikeF
      rw [List.all_eq_true]
      intro x hx
      obtain ⟨i, hi, rfl⟩ := List.getElem_of_mem hx
      exact decide_eq_true (h i hi)
    rw [e]; exact PSub.refl _
  clear hres
  refine PSpec.of_vc (fun Γ => more8 false Γ.P Γ.fx) (fun Γ => more8_ok) Try.func27 rfl Try.call27 (by simp) ?_
  rintro ⟨P, N, w0, X, β0, fx, y, hy, pk, df⟩ rfl rfl rfl hoff rfl; change y.on = false at hoff
  skip
  refine Wp.loop (fun i : Nat => ⟨[(0, .pure (encFs l)), (1, .pure (encRds rds)), (2, .int b), (3, .int a), (9, .int i)], [], []⟩) (fun i => i ≤ rds.length ∧ ∀ j (h : j < rds.length), j < i → alikeR l b a rds[j]) (fun i => rds.length - i) 0 (Le.of ?_ ?_ rfl rfl rfl) ⟨Nat.zero_le _, fun j _ h => absurd h (Nat.not_lt_zero _)⟩ ?_
  · (repeat' (first | exact trivial | refine And.intro ?_ ?_ | exact Or.inl rfl | fail))
  · (repeat' (first | exact trivial | fail))
  intro i ⟨hi, hgood⟩
  by_cases hi2 : i < rds.length
  · have q1 := rpts_spec l rds[i].key rds[i].lo rds[i].hi b hl
    have q2 := rpts_spec l rds[i].key rds[i].lo rds[i].hi a hl
    have l1' := ptsF_len l rds[i].key rds[i].lo rds[i].hi b
    have l2' := ptsF_len l rds[i].key rds[i].lo rds[i].hi a
    have hiff := alikeR_pts l b a rds[i]
    obtain ⟨p, hp⟩ : ∃ p, p = ptsF l rds[i].key rds[i].lo rds[i].hi b := ⟨_, rfl⟩
    obtain ⟨p', hp'⟩ : ∃ p, p = ptsF l rds[i].key rds[i].lo rds[i].hi a := ⟨_, rfl⟩
    rw [← hp] at q1 l1' hiff
    rw [← hp'] at q2 l2' hiff
    have q3 := sameP_spec p p' (by omega) (by omega)
    clear hp hp'
    by_cases he : p = p'
    · rw [decide_eq_true he] at q3
      have hal := hiff.2 he
      refine code_sound (more := more8 false _ _) more8_ok FOK.wide _ ?_
      repeat' ((try conv => whnf); first | (first | refine k3 (fun hb => ?_) fun hb => ?_ | refine k4 (fun hb => ?_) fun hb => ?_) <;> (try rw [List.length_map] at hb) <;> (try (exfalso; omega; done)) | refine And.intro rfl ?_ | refine s5 nm nm ?_ | fail)
      refine Wp.draw (more := more8 true _ _) more8_det more8_ok FOK.wide rfl (by decide +kernel) (by conv => lhs; reduce) ?_
      skip
      refine ⟨_, q1, ?_⟩
      repeat' ((try conv => whnf); first | refine And.intro rfl ?_ | fail)
      refine ⟨_, q2, ?_⟩
      repeat' ((try conv => whnf); first | refine And.intro rfl ?_ | fail)
      refine ⟨_, q3, ?_⟩
      repeat' ((try conv => whnf); first | refine s4 nm ?_ | fail)
      refine ⟨i + 1, Le.of (by (repeat' (first | exact trivial | refine And.intro ?_ ?_ | exact Or.inl rfl | fail))) (by (repeat' (first | exact trivial | fail))) rfl rfl rfl, ⟨by omega, fun j hj hjm => ?_⟩, by omega⟩
      by_cases e : j = i
      · subst e; exact hal
      · exact hgood j hj (by omega)
    · rw [decide_eq_false he] at q3
      have hal := fun h => he (hiff.1 h)
      refine code_sound (more := more8 false _ _) more8_ok FOK.wide _ ?_
      repeat' ((try conv => whnf); first | (first | refine k3 (fun hb => ?_) fun hb => ?_ | refine k4 (fun hb => ?_) fun hb => ?_) <;> (try rw [List.length_map] at hb) <;> (try (exfalso; omega; done)) | refine And.intro rfl ?_ | refine s5 nm nm ?_ | fail)
      refine Wp.draw (more := more8 true _ _) more8_det more8_ok FOK.wide rfl (by decide +kernel) (by conv => lhs; reduce) ?_
      skip
      refine ⟨_, q1, ?_⟩
      repeat' ((try conv => whnf); first | refine And.intro rfl ?_ | fail)
      refine ⟨_, q2, ?_⟩
      repeat' ((try conv => whnf); first | refine And.intro rfl ?_ | fail)
      refine ⟨_, q3, ?_⟩
      skip
      exact hbad i hi2 hal
  · refine code_sound (more := more8 false _ _) more8_ok FOK.wide _ ?_
    repeat' ((try conv => whnf); first | (first | refine k3 (fun hb => ?_) fun hb => ?_ | refine k4 (fun hb => ?_) fun hb => ?_) <;> (try rw [List.length_map] at hb) <;> (try (exfalso; omega; done)) | fail)
    exact hall fun j hj => hgood j hj (by omega)
theorem few_spec (l : List Fa) (hl : l.length ≤ 140737488355328) : PSpec Try.prog 12 [encFs l] (.bool (decide (l.length ≤ 30))) := by
  refine PSpec.of_vc (fun Γ => more8 false Γ.P Γ.fx) (fun Γ => more8_ok) Try.func12 rfl Try.call12 (by simp) ?_
  rintro ⟨P, N, w0, X, β0, fx, y, hy, pk, df⟩ rfl rfl rfl hoff rfl; change y.on = false at hoff
  skip
  refine PSub.of_eq (congrArg (fun b => PV.val (.bool b)) ?_)
  refine decide_eq_decide.2 ?_
  rw [List.length_map]
  omega
theorem rupto_spec (l : List Fa) (kn : Int) (hl : l.length ≤ 100000) : PSpec Try.prog 29 [encFs l, .int kn] (encFs (uptoF l kn)) := by
  refine PSpec.of_vc (fun Γ => more8 false Γ.P Γ.fx) (fun Γ => more8_ok) Try.func29 rfl Try.call29 (by simp) ?_
  rintro ⟨P, N, w0, X, β0, fx, y, hy, pk, df⟩ rfl rfl rfl hoff rfl; change y.on = false at hoff
  repeat' ((try conv => whnf); first | refine And.intro bd ?_ | fail)
  refine Wp.loop (fun i : Nat => ⟨[(0, .pure (encFs l)), (1, .int kn), (5, .lsl 7 0 (uptoF (l.take i) kn).length), (6, .int i)], [(7, some (.row 8 ((uptoF (l.take i) kn).map encFa)))], [7]⟩) (fun i => i ≤ l.length) (fun i => l.length - i) 0 (Le.of ?_ ?_ rfl rfl rfl) (by omega) ?_
  · (repeat' (first | exact trivial | refine And.intro ?_ ?_ | exact Or.inl rfl | fail))
  · (repeat' (first | exact trivial | exact rfl | refine And.intro ?_ ?_ | fail))
  intro i hi
  by_cases hi2 : i < l.length
  · have ht := upto_take (kn := kn) hi2
    have hlen := upto_len (l.take i) kn
    rw [List.length_take] at hlen
    obtain ⟨u, hu⟩ : ∃ u, u = uptoF (l.take i) kn := ⟨_, rfl⟩
    rw [← hu] at ht hlen ⊢
    by_cases hp : l[i].known ≤ kn
    · rw [if_pos hp] at ht
      refine code_sound (more := more8 false _ _) more8_ok FOK.wide _ ?_
      repeat' ((try conv => whnf); first | (first | refine k3 (fun hb => ?_) fun hb => ?_ | refine k4 (fun hb => ?_) fun hb => ?_) <;> (try rw [List.length_map] at hb) <;> (try (exfalso; omega; done)) | refine s4 nm ?_ | refine s5 nm nm ?_ | refine And.intro bd ?_ | fail)
      refine ⟨i + 1, Le.map [(7, 27)] ?_ ?_ rfl rfl rfl rfl, by omega, by omega⟩
      · rw [ht]; (repeat' (first | exact trivial | refine And.intro ?_ ?_ | exact Or.inl rfl | exact SubA.lsl ls | fail))
      · rw [ht]
        (repeat' (first | exact trivial | refine And.intro ?_ ?_ | fail))
        all_goals first
          | (refine SubA.lsl ?_; focus (simp; done))
          | (refine rowEq ?_; focus (simp; done))
          | (refine rowEq ?_; focus (rw [List.map_append]; rfl))
    · rw [if_neg hp] at ht
      refine code_sound (more := more8 false _ _) more8_ok FOK.wide _ ?_
      repeat' ((try conv => whnf); first | (first | refine k3 (fun hb => ?_) fun hb => ?_ | refine k4 (fun hb => ?_) fun hb => ?_) <;> (try rw [List.length_map] at hb) <;> (try (exfalso; omega; done)) | refine s4 nm ?_ | refine s5 nm nm ?_ | fail)
      refine ⟨i + 1, Le.of ?_ ?_ rfl rfl rfl, by omega, by omega⟩
      · rw [ht]; (repeat' (first | exact trivial | refine And.intro ?_ ?_ | exact Or.inl rfl | fail))
      · rw [ht]; (repeat' (first | exact trivial | exact rfl | refine And.intro ?_ ?_ | fail))
  · refine code_sound (more := more8 false _ _) more8_ok FOK.wide _ ?_
    repeat' ((try conv => whnf); first | (first | refine k3 (fun hb => ?_) fun hb => ?_ | refine k4 (fun hb => ?_) fun hb => ?_) <;> (try rw [List.length_map] at hb) <;> (try (exfalso; omega; done)) | fail)
    exact sub_sl (by rw [List.drop_zero, List.take_of_length_le (by simp), show i = l.length by omega, List.take_of_length_le (Nat.le_refl _)])
end Go.Proofs.Ytinhhmnnfbeimaa
/- Facts: the chapter's examples. Conditions: none. -/
namespace Go.Proofs.Ytinhhmnnfbeimaa
open Go.Avc
def gdF (v lo hi kn no : Int) : Fa := ⟨⟨3, 4, 9⟩, v, lo, hi, kn, no⟩
def g1 : Fa := gdF 7 2 6 10 0
def g2 : Fa := gdF (-1) 3 4 20 0
def κS : Ky := ⟨3, 4, 9⟩
theorem s_at1 : atF [g1, g2] κS 3 15 = (7, true) := by kernel_rfl
theorem s_at2 : atF [g1, g2] κS 3 20 = (0, false) := by kernel_rfl
theorem s_at3 : atF [g1, g2] κS 2 20 = (7, true) := by kernel_rfl
theorem s_at4 : atF [] κS 0 0 = (0, false) := by kernel_rfl
theorem s_add1 : addF [g1] g2 = ([g1, g2], 0) := by kernel_rfl
theorem s_add2 : addF [g1, g2] (gdF 7 2 6 20 0) = ([], 41) := by kernel_rfl
theorem spN_stay {f : Nat → Bool} {m : Nat} : ∀ {n : Nat}, m ≤ n → (∀ j, m ≤ j → j < n → f j = false) → spN f n = spN f m
  | 0, h, _ => by rw [show m = 0 by omega]
  | n + 1, h, hf => by
    by_cases e : m = n + 1
    · rw [e]
    · rw [spN_no (hf n (by omega) (by omega)), spN_stay (n := n) (by omega) fun j h1 h2 => hf j h1 (by omega)]
theorem s_dif (n : Nat) : difT [g1, g2] κS 15 20 n = decide (n = 3) := by
  have a1 : abtF [g1, g2] κS 15 = [g1] := by kernel_rfl
  have a2 : abtF [g1, g2] κS 20 = [g1, g2] := by kernel_rfl
  by_cases h : n = 3
  · rw [h]; decide +kernel
  · have e : atF [g1, g2] κS n 15 = atF [g1, g2] κS n 20 := by
      unfold atF bestF
      rw [a1, a2]
      simp only [List.foldl_cons, List.foldl_nil]
      rw [pickF_no (f := g2)]
      show ¬ ((3 : Int) ≤ n ∧ (n : Int) < 4)
      omega
    unfold difT
    rw [e]
    simp [h]
theorem s_ch : chF [g1, g2] 15 20 = [(κS, [(3, 4)])] := by
  have hk : keysF [g1, g2] = [κS] := by kernel_rfl
  have hd : ddF [g1, g2] κS 15 20 = [(3, 4)] := by
    rw [ddF_eq, spN_stay (m := 4) (by omega) fun j h1 h2 => by rw [s_dif]; simp; omega]
    rw [spN_congr (g := fun n => decide (n = 3)) fun j _ => s_dif j]
    rfl
  unfold chF chL
  rw [hk]
  simp [dfOf, hd]
theorem s_chk1 : chkF [zeroFa] = 40 := by kernel_rfl
theorem s_chk2 : chkF [g1, g2] = 0 := by kernel_rfl
theorem s_pt1 : ptsF [g1, g2] κS 5 5 20 = [] := by kernel_rfl
theorem s_pt2 : ptsF [g1, g2] κS 0 9 20 = [(2, 7), (4, 7), (5, 7)] := by kernel_rfl
theorem s_al1 : alikeF [g1, g2] [] 1 2 = true := by kernel_rfl
theorem s_al2 : alikeF [g1, g2] [⟨κS, 0, 9⟩] 15 20 = false := by
  have h : ¬ alikeR [g1, g2] 15 20 ⟨κS, 0, 9⟩ := by
    rw [alikeR_iff]
    intro h
    have := h 3 (by decide) (by decide) (by decide)
    have h1 : atF [g1, g2] κS ((3 : Nat) : Int) 15 = (7, true) := s_at1
    have h2 : atF [g1, g2] κS ((3 : Nat) : Int) 20 = (0, false) := s_at2
    rw [h1, h2] at this
    cases this
  unfold alikeF
  simp [h]
theorem s_up : uptoF [g1, g2] 19 = [g1] := by kernel_rfl
set_option maxRecDepth 20000
set_option maxHeartbeats 4000000
set_option linter.unusedSimpArgs false
attribute [local irreducible] PSub Wp PSpec Le Need Both
attribute [local irreducible] atF addF chF chkF ptsF alikeF uptoF
theorem grade_spec (v lo hi kn no : Int) : PSpec Try.prog 31 [.int v, .int lo, .int hi, .int kn, .int no] (.agg (encFa (gdF v lo hi kn no))) := by
  refine PSpec.of_vc (fun Γ => more8 false Γ.P Γ.fx) (fun Γ => more8_ok) Try.func31 rfl Try.call31 (by simp) ?_
  rintro ⟨P, N, w0, X, β0, fx, y, hy, pk, df⟩ rfl rfl rfl hoff rfl; change y.on = false at hoff
  repeat' ((try conv => whnf); first | refine And.intro rfl ?_ | fail)
  exact PSub.refl _
theorem sane_spec : PSpec Try.prog 11 [] (.bool true) := by
  have a1 := at_spec [g1, g2] κS 3 15 (by decide)
  have a2 := at_spec [g1, g2] κS 3 20 (by decide)
  have a3 := at_spec [g1, g2] κS 2 20 (by decide)
  have a4 := at_spec [] κS 0 0 (by decide)
  have a5 := add_spec [g1] g2 (by decide)
  have a6 := add_spec [g1, g2] (gdF 7 2 6 20 0) (by decide)
  have a7 := changed_spec [g1, g2] 15 20 (by decide)
  have a8 := check_spec [zeroFa] (by decide)
  have a9 := check_spec [g1, g2] (by decide)
  have b1 := points_spec [g1, g2] κS 5 5 20 (by decide)
  have b2 := points_spec [g1, g2] κS 0 9 20 (by decide)
  have b3 := alike_spec [g1, g2] [] 1 2 (by decide) (by decide)
  have b4 := alike_spec [g1, g2] [⟨κS, 0, 9⟩] 15 20 (by decide) (by decide)
  have b5 := upto_spec [g1, g2] 19 (by decide)
  have c1 := sameF_spec [g1, g2] [g1, g2] (by decide) (by decide)
  have c2 := sameF_spec [g1] [g1] (by decide) (by decide)
  have c3 := sameD_spec [(κS, [(3, 4)])] [(κS, [(3, 4)])] (by decide) (by decide) (by decide) (by decide)
  rw [decide_eq_true rfl] at c1 c2 c3
  rw [s_at1] at a1; rw [s_at2] at a2; rw [s_at3] at a3; rw [s_at4] at a4; rw [s_add1] at a5; rw [s_add2] at a6; rw [s_ch] at a7; rw [s_chk1] at a8; rw [s_chk2] at a9
  rw [s_pt1] at b1; rw [s_pt2] at b2; rw [s_al1] at b3; rw [s_al2] at b4; rw [s_up] at b5
  refine PSpec.of_vc (fun Γ => more8 false Γ.P Γ.fx) (fun Γ => more8_ok) Try.func11 rfl Try.call11 (by simp) ?_
  rintro ⟨P, N, w0, X, β0, fx, y, hy, pk, df⟩ rfl rfl rfl hoff rfl; change y.on = false at hoff
  skip
  refine .inl ⟨_, grade_spec .., ?_⟩
  repeat' ((try conv => whnf); first | refine And.intro rfl ?_ | fail)
  refine .inl ⟨_, grade_spec .., ?_⟩
  repeat' ((try conv => whnf); first | refine And.intro rfl ?_ | refine And.intro bd ?_ | fail)
  refine ⟨_, rfl, ?_⟩
  repeat' ((try conv => whnf); first | refine And.intro rfl ?_ | fail)
  refine .inl ⟨_, a1, ?_⟩
  skip
  refine .inl ⟨_, a2, ?_⟩
  skip
  refine .inl ⟨_, a3, ?_⟩
  skip
  refine .inl ⟨_, a4.args ⟨PSub.nil _, PSub.refl _, PSub.refl _, PSub.refl _, trivial⟩, ?_⟩
  skip
  refine Wp.le (Le.frz 18 rfl) ?_
  refine Wp.draw (more := more8 true _ _) more8_det more8_ok FOK.wide rfl (by decide +kernel) (by conv => lhs; reduce) ?_
  repeat' ((try conv => whnf); first | refine And.intro bd ?_ | fail)
  refine ⟨_, rfl, ?_⟩
  skip
  refine ⟨_, a5, ?_⟩
  repeat' ((try conv => whnf); first | refine And.intro rfl ?_ | fail)
  refine .inl ⟨_, grade_spec .., ?_⟩
  repeat' ((try conv => whnf); first | refine And.intro rfl ?_ | fail)
  refine .inl ⟨_, a6, ?_⟩
  repeat' ((try conv => whnf); first | refine And.intro rfl ?_ | fail)
  refine .inl ⟨_, a7, ?_⟩
  repeat' ((try conv => whnf); first | refine And.intro rfl ?_ | refine And.intro bd ?_ | fail)
  refine .inl ⟨_, a8, ?_⟩
  skip
  refine .inl ⟨_, a9, ?_⟩
  skip
  refine .inl ⟨_, b1, ?_⟩
  repeat' ((try conv => whnf); first | refine And.intro rfl ?_ | fail)
  refine Wp.draw (more := more8 true _ _) more8_det more8_ok FOK.wide rfl (by decide +kernel) (by conv => lhs; reduce) ?_
  skip
  refine ⟨_, c1, ?_⟩
  repeat' ((try conv => whnf); first | refine And.intro bd ?_ | fail)
  refine ⟨_, c3, ?_⟩
  skip
  refine ⟨_, b3.args ⟨PSub.refl _, PSub.nil _, PSub.refl _, PSub.refl _, trivial⟩, ?_⟩
  repeat' ((try conv => whnf); first | refine And.intro bd ?_ | fail)
  refine ⟨_, b4, ?_⟩
  skip
  refine ⟨_, b2, ?_⟩
  repeat' ((try conv => whnf); first | refine And.intro rfl ?_ | fail)
  refine ⟨_, b5, ?_⟩
  repeat' ((try conv => whnf); first | refine And.intro rfl ?_ | refine And.intro bd ?_ | fail)
  refine ⟨_, c2, ?_⟩
  skip
  exact PSub.refl _
end Go.Proofs.Ytinhhmnnfbeimaa
