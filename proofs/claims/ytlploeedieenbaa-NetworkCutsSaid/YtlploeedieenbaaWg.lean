/- slices.SortFunc at pairs of numbers: what the program bears (written by lay-plain.mjs). Conditions: none. -/
import Derived.Shelf.SlSortCmp.WholeK
import Derived.Test.YtlploeedieenbaaChecked
import Derived.Test.YtlploeedieenbaaWd
import Derived.Test.YtlploeedieenbaaWf
import Derived.Test.YtlploeedieenbaaWe
set_option linter.unusedSimpArgs false
set_option linter.unusedVariables false
namespace Go.Proofs
open Go.Shelf
def Try.sortPr_ren : Go.Shelf.Ren := ⟨fun | 6 => 40 | 15 => 51 | 14 => 50 | 28 => 62 | 29 => 63 | 20 => 54 | 21 => 55 | 22 => 56 | 23 => 57 | 24 => 58 | 25 => 59 | 26 => 60 | 27 => 61 | 46 => 65 | 47 => 66 | 48 => 67 | 49 => 68 | 50 => 69 | 57 => 70 | n => n, fun | 22 => 23 | 24 => 55 | 25 => 61 | 3 => 3 | 39 => 52 | 0 => 0 | 53 => 90 | 55 => 92 | 4 => 4 | 46 => 83 | 45 => 82 | 50 => 87 | 5 => 5 | 9 => 9 | 66 => 93 | 70 => 97 | 76 => 99 | 77 => 100 | n => n, fun | n => n⟩
theorem Try.sortPr : Go.Proofs.SlLaysF0.n6 Try.prog Try.sortPr_ren := {
  mixed := by kernel_rfl
  f6 := ⟨Try.f40.name, by decide, Try.func40.trans (congrArg some (by kernel_rfl))⟩
  f14 := ⟨Try.f50.name, by decide, Try.func50.trans (congrArg some (by kernel_rfl))⟩
  f15 := Try.func51.trans (congrArg some (by kernel_rfl))
  f20 := ⟨Try.f54.name, by decide, Try.func54.trans (congrArg some (by kernel_rfl))⟩
  f21 := ⟨Try.f55.name, by decide, Try.func55.trans (congrArg some (by kernel_rfl))⟩
  f22 := ⟨Try.f56.name, by decide, Try.func56.trans (congrArg some (by kernel_rfl))⟩
  f23 := ⟨Try.f57.name, by decide, Try.func57.trans (congrArg some (by kernel_rfl))⟩
  f24 := ⟨Try.f58.name, by decide, Try.func58.trans (congrArg some (by kernel_rfl))⟩
  f25 := ⟨Try.f59.name, by decide, Try.func59.trans (congrArg some (by kernel_rfl))⟩
  f26 := ⟨Try.f60.name, by decide, Try.func60.trans (congrArg some (by kernel_rfl))⟩
  f27 := ⟨Try.f61.name, by decide, Try.func61.trans (congrArg some (by kernel_rfl))⟩
  f28 := Try.func62.trans (congrArg some (by kernel_rfl))
  f29 := Try.func63.trans (congrArg some (by kernel_rfl))
  f46 := ⟨Try.f65.name, by decide, Try.func65.trans (congrArg some (by kernel_rfl))⟩
  f47 := Try.func66.trans (congrArg some (by kernel_rfl))
  f48 := Try.func67.trans (congrArg some (by kernel_rfl))
  f49 := ⟨Try.f68.name, by decide, Try.func68.trans (congrArg some (by kernel_rfl))⟩
  f50 := ⟨Try.f69.name, by decide, Try.func69.trans (congrArg some (by kernel_rfl))⟩
  f57 := ⟨Try.f70.name, by decide, Try.func70.trans (congrArg some (by kernel_rfl))⟩
  t0 := Try.underlying0
  a0 := Try.isAgg0
  z0 := Try.sizeOf0
  v0 := Try.zeroValue0
  t3 := Try.underlying3
  a3 := Try.isAgg3
  z3 := Try.sizeOf3
  v3 := Try.zeroValue3
  t4 := Try.underlying4
  a4 := Try.isAgg4
  z4 := Try.sizeOf4
  v4 := Try.zeroValue4
  t5 := Try.underlying5
  a5 := Try.isAgg5
  z5 := Try.sizeOf5
  v5 := Try.zeroValue5
  t9 := Try.underlying9
  a9 := Try.isAgg9
  z9 := Try.sizeOf9
  v9 := Try.zeroValue9
  t22 := Try.underlying23
  a22 := Try.isAgg23
  z22 := Try.sizeOf23
  v22 := Try.zeroValue23
  t25 := Try.underlying61
  a25 := Try.isAgg61
  z25 := Try.sizeOf61
  v25 := Try.zeroValue61
  t39 := Try.underlying52
  a39 := Try.isAgg52
  z39 := Try.sizeOf52
  v39 := Try.zeroValue52
  t45 := Try.underlying82
  a45 := Try.isAgg82
  z45 := Try.sizeOf82
  v45 := Try.zeroValue82
  t46 := Try.underlying83
  a46 := Try.isAgg83
  z46 := Try.sizeOf83
  v46 := Try.zeroValue83
  t50 := Try.underlying87
  a50 := Try.isAgg87
  z50 := Try.sizeOf87
  v50 := Try.zeroValue87
  t53 := Try.underlying90
  a53 := Try.isAgg90
  z53 := Try.sizeOf90
  v53 := Try.zeroValue90
  t55 := Try.underlying92
  a55 := Try.isAgg92
  z55 := Try.sizeOf92
  v55 := Try.zeroValue92
  t66 := Try.underlying93
  a66 := Try.isAgg93
  z66 := Try.sizeOf93
  v66 := Try.zeroValue93
  t70 := Try.underlying97
  a70 := Try.isAgg97
  z70 := Try.sizeOf97
  v70 := Try.zeroValue97
  t76 := Try.underlying99
  a76 := Try.isAgg99
  z76 := Try.sizeOf99
  v76 := Try.zeroValue99
  t77 := Try.underlying100
  a77 := Try.isAgg100
  z77 := Try.sizeOf100
  v77 := Try.zeroValue100 }
end Go.Proofs
/- Networks: Contains, Deliver, the pairs that are not a certain one, Cut. Conditions: none. -/
namespace Go.Proofs.Ytlploeedieenbaa
open Go.Avc
theorem isAg {cs : List AV} : ∃ c, AV.agg cs = .agg c ∨ ∃ d, AV.agg cs = .pure (.agg d) ∧ c = pures d := ⟨_, .inl rfl⟩
theorem isAp {ps : List PV} : ∃ c, AV.pure (.agg ps) = .agg c ∨ ∃ d, AV.pure (.agg ps) = .pure (.agg d) ∧ c = pures d := ⟨_, .inr ⟨_, rfl, rfl⟩⟩
theorem prEq (p q : Int × Int) : aggEq Try.prog 55 ([p.1, p.2].map (Value.int .i64)).toArray ([q.1, q.2].map (Value.int .i64)).toArray (decide (p = q)) := by
  have h := arrEq (P := Try.prog) (t := 55) (e := 3) (n := 2) (k := .i64) (by kernel_rfl) (by kernel_rfl) (by kernel_rfl) (by kernel_rfl) [p.1, p.2] [q.1, q.2] rfl rfl (d := Try.prog.depth - 2) (by kernel_rfl)
  have e1 : decide ([p.1, p.2] = [q.1, q.2]) = decide (p = q) := by
    obtain ⟨a, b⟩ := p; obtain ⟨c, d⟩ := q
    simp
  rw [e1] at h
  exact h
/-- r is the index of the first pair that is p, or -1. -/
def PIdx (l : List (Int × Int)) (p : Int × Int) (r : Int) : Prop := (r = -1 ∧ ∀ j, (h : j < l.length) → l[j] ≠ p) ∨ ∃ k : Nat, r = k ∧ (∃ h : k < l.length, l[k] = p) ∧ ∀ j, (h : j < l.length) → j < k → l[j] ≠ p
theorem PIdx.ex (l : List (Int × Int)) (p : Int × Int) : ∃ r, PIdx l p r := by
  have h : ∀ k, (∀ j, (h : j < l.length) → j < k → l[j] ≠ p) ∨ ∃ r, PIdx l p r := by
    intro k
    induction k with
    | zero => exact .inl fun j _ h => by omega
    | succ k ih =>
      rcases ih with h | h
      · by_cases hk : k < l.length
        · by_cases hp : l[k] = p
          · exact .inr ⟨k, .inr ⟨k, rfl, ⟨hk, hp⟩, h⟩⟩
          · refine .inl fun j hj hjk => ?_
            by_cases e : j = k
            · subst e; exact hp
            · exact h j hj (by omega)
        · exact .inl fun j hj _ => h j hj (by omega)
      · exact .inr h
  rcases h l.length with h | h
  · exact ⟨-1, .inl ⟨rfl, fun j hj => h j hj hj⟩⟩
  · exact h
theorem PIdx.at {l : List (Int × Int)} {p : Int × Int} {r : Int} (h : PIdx l p r) {k : Nat} (hk : k < l.length) (hb : l[k] = p) (ho : ∀ j, (h : j < l.length) → j < k → l[j] ≠ p) : r = k := by
  rcases h with ⟨_, h⟩ | ⟨m, rfl, ⟨hm, hmb⟩, hmo⟩
  · exact absurd hb (h k hk)
  · by_cases h1 : m < k
    · exact absurd hmb (ho m hm h1)
    · by_cases h2 : k < m
      · exact absurd hb (hmo k hk h2)
      · omega
theorem PIdx.all {l : List (Int × Int)} {p : Int × Int} {r : Int} (h : PIdx l p r) (ho : ∀ j, (h : j < l.length) → l[j] ≠ p) : r = -1 := by
  rcases h with ⟨h, _⟩ | ⟨m, rfl, ⟨hm, hmb⟩, hmo⟩
  · exact h
  · exact absurd hmb (ho m hm)
theorem PIdx.mem {l : List (Int × Int)} {p : Int × Int} {r : Int} (h : PIdx l p r) : decide (0 ≤ r) = decide (p ∈ l) := by
  rcases h with ⟨rfl, h⟩ | ⟨m, rfl, ⟨hm, hmb⟩, hmo⟩
  · have : p ∉ l := fun hp => by
      obtain ⟨i, hi, e⟩ := List.getElem_of_mem hp
      exact h i hi e
    simp [this]
  · have : p ∈ l := hmb ▸ List.getElem_mem hm
    simp only [this, decide_true, decide_eq_true_eq]; omega
set_option maxRecDepth 20000
set_option maxHeartbeats 4000000
set_option linter.unusedSimpArgs false
attribute [local irreducible] PSub Wp PSpec Le Need Both
theorem index_spec (l : List (Int × Int)) (p : Int × Int) (r : Int) (hr : PIdx l p r) (hl : l.length ≤ 1000000) : PSpec Try.prog 52 [encA l, .agg (encP2 p)] (.int r) := by
  refine PSpec.of_vc (fun Γ => more7 false Γ.P Γ.fx) (fun Γ => more7_ok) Try.func52 rfl Try.call52 (by simp) ?_
  rintro ⟨P, N, w0, X, β0, fx, y, hy, pk, df⟩ rfl rfl rfl hoff rfl; change y.on = false at hoff
  repeat' ((try conv => whnf); first | refine And.intro rfl ?_ | refine ⟨_, singles_rfl _, ?_⟩ | fail)
  refine Wp.loop (fun k : Nat => ⟨[(0, .pure (encA l)), (3, .loc 3 0 0), (7, .int l.length), (8, .int k)], [(3, some (.row 1 [[.int p.1], [.int p.2]]))], [3]⟩) (fun k => k ≤ l.length ∧ ∀ j, (h : j < l.length) → j < k → l[j] ≠ p) (fun k => l.length - k) 0 (Le.of ?_ ?_ rfl rfl rfl) ⟨by omega, fun j _ h => by omega⟩ ?_
  · (repeat' (first | exact trivial | refine And.intro ?_ ?_ | exact Or.inl rfl | exact l1 bd | fail))
  · (repeat' (first | exact trivial | exact rfl | refine And.intro ?_ ?_ | fail))
  intro k ⟨hk, ho⟩
  by_cases hk2 : k < l.length
  · have q := prEq p l[k]
    by_cases hp : p = l[k]
    · rw [decide_eq_true hp] at q
      have e := hr.at hk2 hp.symm ho
      subst e
      refine code_sound (more := more7 false _ _) more7_ok FOK.wide _ ?_
      repeat' ((try conv => whnf); first | (first | refine k3 (fun hb => ?_) fun hb => ?_ | refine k4 (fun hb => ?_) fun hb => ?_) <;> (try rw [List.length_map] at hb) <;> (try (exfalso; omega; done)) | fail)
      refine Wp.draw (more := more7 true _ _) more7_det more7_ok FOK.wide rfl (by decide +kernel) (by conv => lhs; reduce) ?_
      repeat' ((try conv => whnf); first | refine s5 nm nm ?_ | refine .inr ⟨rfl, rfl, rfl, ?_⟩ | refine .inl ⟨rfl, rfl, ?_⟩ | fail)
      refine ⟨_, q, isAp, isAp, ?_⟩
      skip
      exact PSub.refl _
    · rw [decide_eq_false hp] at q
      refine code_sound (more := more7 false _ _) more7_ok FOK.wide _ ?_
      repeat' ((try conv => whnf); first | (first | refine k3 (fun hb => ?_) fun hb => ?_ | refine k4 (fun hb => ?_) fun hb => ?_) <;> (try rw [List.length_map] at hb) <;> (try (exfalso; omega; done)) | fail)
      refine Wp.draw (more := more7 true _ _) more7_det more7_ok FOK.wide rfl (by decide +kernel) (by conv => lhs; reduce) ?_
      repeat' ((try conv => whnf); first | refine s5 nm nm ?_ | refine .inr ⟨rfl, rfl, rfl, ?_⟩ | refine .inl ⟨rfl, rfl, ?_⟩ | fail)
      refine ⟨_, q, isAp, isAp, ?_⟩
      repeat' ((try conv => whnf); first | refine s4 nm ?_ | fail)
      refine ⟨k + 1, Le.of (by (repeat' (first | exact trivial | refine And.intro ?_ ?_ | exact Or.inl rfl | fail))) (by (repeat' (first | exact trivial | exact rfl | refine And.intro ?_ ?_ | fail))) rfl rfl rfl, ⟨by omega, fun j hj hjk => ?_⟩, by omega⟩
      by_cases e : j = k
      · subst e; exact fun h => hp h.symm
      · exact ho j hj (by omega)
  · have e := hr.all fun j hj => ho j hj (by omega)
    subst e
    refine code_sound (more := more7 false _ _) more7_ok FOK.wide _ ?_
    repeat' ((try conv => whnf); first | (first | refine k3 (fun hb => ?_) fun hb => ?_ | refine k4 (fun hb => ?_) fun hb => ?_) <;> (try rw [List.length_map] at hb) <;> (try (exfalso; omega; done)) | fail)
    exact PSub.refl _
theorem contains_spec (l : List (Int × Int)) (p : Int × Int) (hl : l.length ≤ 1000000) : PSpec Try.prog 42 [encA l, .agg (encP2 p)] (.bool (decide (p ∈ l))) := by
  obtain ⟨r, hr⟩ := PIdx.ex l p
  have q := index_spec l p r hr hl
  rw [← hr.mem]
  refine PSpec.of_vc (fun Γ => more7 false Γ.P Γ.fx) (fun Γ => more7_ok) Try.func42 rfl Try.call42 (by simp) ?_
  rintro ⟨P, N, w0, X, β0, fx, y, hy, pk, df⟩ rfl rfl rfl hoff rfl; change y.on = false at hoff
  repeat' ((try conv => whnf); first | refine And.intro rfl ?_ | refine .inr ⟨rfl, rfl, rfl, ?_⟩ | refine ⟨_, singles_rfl _, ?_⟩ | fail)
  refine .inl ⟨_, q, ?_⟩
  skip
  exact PSub.refl _
def encPNE (x : Pk × Nt × Int) : PV := .tup [.agg (encPk x.1), encN x.2.1, .int x.2.2]
theorem zeroPk_sub : PSub (.agg [.val (.int .i64 0), .val (.int .i64 0), .val (.slice none 0 0)]) (.agg (encPk zeroPk)) := PSub.agg ⟨PSub.refl _, PSub.refl _, PSub.nil 1, trivial⟩
theorem deliver_spec (n : Nt) (at_ : Int) (hq : n.queue.length ≤ 100000) (ha : n.apart.length ≤ 1000000) : PSpec Try.prog 20 [encN n, .int at_] (encPNE (n.deliver at_)) := by
  have ql := lose_spec n at_ hq ha
  obtain ⟨c, hc⟩ : ∃ c, c = n.chk at_ := ⟨_, rfl⟩
  by_cases h0 : c = 0
  · have hr := chk_rng (hc ▸ h0)
    obtain ⟨k, rfl⟩ : ∃ k : Nat, at_ = k := ⟨at_.toNat, by omega⟩
    have hk : k < n.queue.length := by omega
    have eg : n.queue.getD k zeroPk = n.queue[k] := by simp [List.getD, hk]
    have el : n.lose k = (⟨n.queue.eraseIdx k, n.apart⟩, 0) := by unfold Nt.lose; rw [if_pos (hc ▸ h0)]; rfl
    have ed : n.deliver k = ((if decide (pairOf n.queue[k].src n.queue[k].dst ∈ n.apart) then zeroPk else n.queue[k]), ⟨n.queue.eraseIdx k, n.apart⟩, 0) := by
      unfold Nt.deliver Nt.cutOff
      rw [if_pos (hc ▸ h0), Int.toNat_natCast, eg]
    rw [el] at ql
    rw [ed]
    have qp := pair_spec n.queue[k].src n.queue[k].dst
    have qn := contains_spec n.apart (pairOf n.queue[k].src n.queue[k].dst) ha
    have hok : n.queue[k].ok := by
      have h1 : n.check = 0 := by
        by_cases h : n.check = 0
        · exact h
        · exfalso
          rw [hc] at h0
          unfold Nt.chk at h0
          rw [if_neg h] at h0
          exact h h0
      exact (Nt.ok_of h1).2.1 _ (List.getElem_mem _)
    have qb := cloneB_spec n.queue[k].data (by have := hok.2; omega)
    obtain ⟨b, hb⟩ : ∃ b, b = decide (pairOf n.queue[k].src n.queue[k].dst ∈ n.apart) := ⟨_, rfl⟩
    rw [← hb] at qn ⊢
    obtain ⟨m, hm⟩ : ∃ m : Nt, m = ⟨n.queue.eraseIdx k, n.apart⟩ := ⟨_, rfl⟩
    rw [← hm] at ql ⊢
    refine PSpec.of_vc (fun Γ => more7 false Γ.P Γ.fx) (fun Γ => more7_ok) Try.func20 rfl Try.call20 (by simp) ?_
    rintro ⟨P, N, w0, X, β0, fx, y, hy, pk, df⟩ rfl rfl rfl hoff rfl; change y.on = false at hoff
    skip
    refine .inl ⟨_, ql, ?_⟩
    repeat' ((try conv => whnf); first | refine And.intro rfl ?_ | refine s5 nm nm ?_ | fail)
    refine Wp.draw (more := more7 true _ _) more7_det more7_ok FOK.wide rfl (by decide +kernel) (by conv => lhs; reduce) ?_
    skip
    refine ⟨_, qp, ?_⟩
    repeat' ((try conv => whnf); first | refine And.intro rfl ?_ | fail)
    refine ⟨_, qn, ?_⟩
    repeat' ((try conv => whnf); first | refine k5 (fun hb => ?_) fun hb => ?_ | refine And.intro rfl ?_ | fail)
    · refine Wp.draw (more := more7 true _ _) more7_det more7_ok FOK.wide rfl (by decide +kernel) (by conv => lhs; reduce) ?_
      repeat' ((try conv => whnf); first | refine And.intro rfl ?_ | fail)
      rw [show b = true by assumption]
      exact PSub.tup ⟨zeroPk_sub, PSub.refl _, PSub.refl _, trivial⟩
    · refine .inl ⟨_, qb, ?_⟩
      repeat' ((try conv => whnf); first | refine And.intro rfl ?_ | fail)
      refine Wp.draw (more := more7 true _ _) more7_det more7_ok FOK.wide rfl (by decide +kernel) (by conv => lhs; reduce) ?_
      repeat' ((try conv => whnf); first | refine And.intro rfl ?_ | fail)
      rw [show b = false by assumption]
      exact PSub.refl _
  · have el : n.lose at_ = (zeroN, c) := by unfold Nt.lose; rw [if_neg (hc ▸ h0), hc]
    have ed : n.deliver at_ = (zeroPk, zeroN, c) := by unfold Nt.deliver; rw [if_neg (hc ▸ h0), hc]
    rw [el] at ql
    rw [ed]
    refine PSpec.of_vc (fun Γ => more7 false Γ.P Γ.fx) (fun Γ => more7_ok) Try.func20 rfl Try.call20 (by simp) ?_
    rintro ⟨P, N, w0, X, β0, fx, y, hy, pk, df⟩ rfl rfl rfl hoff rfl; change y.on = false at hoff
    skip
    refine .inl ⟨_, ql, ?_⟩
    repeat' ((try conv => whnf); first | (first | refine k3 (fun hb => ?_) fun hb => ?_ | refine k4 (fun hb => ?_) fun hb => ?_) <;> (try rw [List.length_map] at hb) <;> (try (exfalso; omega; done)) | refine And.intro rfl ?_ | fail)
    refine Wp.draw (more := more7 true _ _) more7_det more7_ok FOK.wide rfl (by decide +kernel) (by conv => lhs; reduce) ?_
    repeat' ((try conv => whnf); first | refine And.intro rfl ?_ | fail)
    exact PSub.tup ⟨zeroPk_sub, PSub.refl _, PSub.refl _, trivial⟩
def pairRows (l : List (Int × Int)) : List (List PV) := l.map fun q => [.agg (encP2 q)]
def oth (l : List (Int × Int)) (p : Int × Int) : List (Int × Int) := l.filter fun q => decide (q ≠ p)
theorem oth_take {l : List (Int × Int)} {p : Int × Int} {k : Nat} (h : k < l.length) : oth (l.take (k + 1)) p = if l[k] = p then oth (l.take k) p else oth (l.take k) p ++ [l[k]] := by
  unfold oth
  rw [List.take_succ_eq_append_getElem h, List.filter_append]
  by_cases e : l[k] = p <;> simp [e]
theorem oth_at {l : List (Int × Int)} {p : Int × Int} {k : Nat} (h : k < l.length) (hp : l[k] ≠ p) : (pairRows (oth l p))[(oth (l.take k) p).length]? = some [.agg (encP2 l[k])] := by
  have e : oth l p = oth (l.take k) p ++ (l[k] :: oth (l.drop (k + 1)) p) := by
    have e0 : l = l.take k ++ l[k] :: l.drop (k + 1) := by rw [← List.drop_eq_getElem_cons h, List.take_append_drop]
    unfold oth
    have e2 : ([l[k]].filter fun q => decide (q ≠ p)) = [l[k]] := by simp [hp]
    calc l.filter (fun q => decide (q ≠ p)) = (l.take k ++ l[k] :: l.drop (k + 1)).filter (fun q => decide (q ≠ p)) := congrArg _ e0
      _ = _ := by rw [List.filter_append, show l[k] :: l.drop (k + 1) = [l[k]] ++ l.drop (k + 1) from rfl, List.filter_append, e2]; rfl
  rw [e]
  simp [pairRows]
theorem others_spec (l : List (Int × Int)) (p : Int × Int) : PSpec Try.prog 39 [encA l, .agg (encP2 p)] (.fn 49 [.ptr [encA l], .par 1 (singles (encP2 p))]) := by
  refine PSpec.of_vc (fun Γ => more7 false Γ.P Γ.fx) (fun Γ => more7_ok) Try.func39 rfl Try.call39 (by simp) ?_
  rintro ⟨P, N, w0, X, β0, fx, y, hy, pk, df⟩ rfl rfl rfl hoff rfl; change y.on = false at hoff
  repeat' ((try conv => whnf); first | refine And.intro rfl ?_ | refine ⟨_, singles_rfl _, ?_⟩ | fail)
  exact PSub.refl _
theorem others1_spec (l : List (Int × Int)) (p : Int × Int) (hl : l.length ≤ 1000000) : ISpec Try.prog 49 [.ptr [encA l], .par 1 (singles (encP2 p))] (pairRows (oth l p)) := by
  refine ISpec.of_vc (fun Γ => more7 false Γ.P Γ.fx) (fun Γ => more7_ok) Try.func49 rfl Try.call49 (Nat.le_of_ble_eq_true rfl) rfl ?_
  rintro ⟨P, N, w0, X, β0, fx, y, hy, pk, df⟩ rfl rfl rfl rfl hon hxs
  dsimp only at hon hxs
  skip
  refine Wp.loop (fun k : Nat => ⟨[(0, .pure (.val (.func (.yield y.l) #[] #[]))), (2, .pure (.par 1 (singles (encP2 p)))), (6, .pure (encA l)), (7, .int l.length), (8, .int k), (22, .gh (oth (l.take k) p).length false)], [], []⟩) (fun k => k ≤ l.length) (fun k => l.length - k) 0 (Le.of ?_ ?_ rfl rfl rfl) (by omega) ?_
  · (repeat' (first | exact trivial | refine And.intro ?_ ?_ | exact Or.inl rfl | exact l1 bd | fail))
  · (repeat' (first | exact trivial | fail))
  intro k hk
  by_cases hk2 : k < l.length
  · have ht := oth_take (p := p) hk2
    have q := prEq l[k] p
    by_cases hp : l[k] = p
    · rw [if_pos hp] at ht
      rw [decide_eq_true hp] at q
      refine code_sound (more := more7 false _ _) more7_ok FOK.wide _ ?_
      repeat' ((try conv => whnf); first | (first | refine k3 (fun hb => ?_) fun hb => ?_ | refine k4 (fun hb => ?_) fun hb => ?_) <;> (try rw [List.length_map] at hb) <;> (try (exfalso; omega; done)) | refine And.intro rfl ?_ | refine s5 nm nm ?_ | refine .inr ⟨rfl, rfl, rfl, ?_⟩ | refine ⟨_, singles_rfl _, ?_⟩ | refine .inl ⟨rfl, rfl, ?_⟩ | fail)
      refine ⟨_, q, isAp, isAp, ?_⟩
      repeat' ((try conv => whnf); first | refine s4 nm ?_ | fail)
      refine ⟨k + 1, Le.of ?_ (by (repeat' (first | exact trivial | fail))) rfl rfl rfl, by omega, by omega⟩
      rw [ht]
      (repeat' (first | exact trivial | refine And.intro ?_ ?_ | exact Or.inl rfl | fail))
    · rw [if_neg hp] at ht
      rw [decide_eq_false hp] at q
      have hrow := oth_at hk2 hp
      refine code_sound (more := more7 false _ _) more7_ok FOK.wide _ ?_
      repeat' ((try conv => whnf); first | (first | refine k3 (fun hb => ?_) fun hb => ?_ | refine k4 (fun hb => ?_) fun hb => ?_) <;> (try rw [List.length_map] at hb) <;> (try (exfalso; omega; done)) | refine And.intro rfl ?_ | refine s5 nm nm ?_ | refine .inr ⟨rfl, rfl, rfl, ?_⟩ | refine ⟨_, singles_rfl _, ?_⟩ | refine .inl ⟨rfl, rfl, ?_⟩ | fail)
      refine ⟨_, q, isAp, isAp, ?_⟩
      repeat' ((try conv => whnf); first | refine And.intro rfl ?_ | refine And.intro bd ?_ | refine .inr ⟨rfl, rfl, rfl, ?_⟩ | fail)
      refine needY (i := (oth (l.take k) p).length) hxs hrow ⟨PSub.refl _, trivial⟩ ?_
      repeat' ((try conv => whnf); first | refine Both.intro ?_ ?_ | refine s4 nm ?_ | fail)
      · refine ⟨k + 1, Le.of ?_ (by (repeat' (first | exact trivial | fail))) rfl rfl rfl, by omega, by omega⟩
        rw [ht, List.length_append]
        (repeat' (first | exact trivial | refine And.intro ?_ ?_ | exact Or.inl rfl | fail))
      · exact ⟨(oth (l.take k) p).length + 1, true, rfl, by simp⟩
  · refine code_sound (more := more7 false _ _) more7_ok FOK.wide _ ?_
    repeat' ((try conv => whnf); first | (first | refine k3 (fun hb => ?_) fun hb => ?_ | refine k4 (fun hb => ?_) fun hb => ?_) <;> (try rw [List.length_map] at hb) <;> (try (exfalso; omega; done)) | fail)
    exact ⟨(oth (l.take k) p).length, false, rfl, fun _ => by simp [pairRows, show k = l.length by omega]⟩
theorem appendSeq_spec (xs : List (Int × Int)) (f : FuncId) (caps : List PV) (hI : ISpec Try.prog f caps (pairRows xs)) (hl : xs.length ≤ 1000000) : GSpec Try.prog 48 2 ⟨numE 0 [.pure (.val (.slice none 0 0)), .pure (.fn f caps)], [], []⟩ [] 1 ⟨[(0, .lsl 50 0 xs.length)], [(50, some (.row 2 (xs.map encP2)))], [50]⟩ := by
  refine GSpec.of_vc (fun Γ => more7 false Γ.P Γ.fx) (fun Γ => more7_ok) Try.func48 rfl Try.call48 (by decide) ?_
  rintro ⟨P, N, w0, X, β0, fx, y, hy, pk, df⟩ rfl rfl rfl hoff rfl; change y.on = false at hoff
  skip
  refine Wp.rangeFunc hI [(2, .loc 2 0 0), (4, .pure (.val (.slice none 0 0))), (6, .pure (.fn f caps))]
      (fun i => [(2, some (.box [.lsl 50 0 (xs.take i).length])), (50, some (.row 2 ((xs.take i).map encP2)))]) (fun _ => [2, 50]) [2]
      (fun _ => True)
      (Le.trans (Le.virt (k := 50) (sz := 2) rfl rfl (by omega)) (Le.of ?_ ?_ rfl rfl rfl)) rfl hoff trivial rfl rfl (fun _ => rfl) rfl (fun i row hrow => ?_) ?_ ?_
  · (repeat' (first | exact trivial | refine And.intro ?_ ?_ | exact Or.inl rfl | fail))
  · (repeat' (first | exact trivial | exact rfl | refine And.intro ?_ ?_ | refine Exists.intro _ (And.intro rfl ?_) | exact l6 rfl | fail))
  · simp only [pairRows, List.getElem?_map, Option.map_eq_some_iff] at hrow
    obtain ⟨w, _, rfl⟩ := hrow
    rfl
  · rintro ⟨P1, N1, w1, X1, β1, fx1, y1, hy1, pk1, df1⟩ rfl rfl rfl hoff1 rfl l k row hrow hok; change y1.on = false at hoff1
    have hk : k < xs.length := by have := (List.getElem?_eq_some_iff.1 hrow).1; simpa [pairRows] using this
    rw [pairRows, List.getElem?_map, List.getElem?_eq_getElem hk] at hrow
    cases hrow
    have hlt : (xs.take k).length = k := by simp; omega
    refine code_sound (more := more7 false _ _) more7_ok (FOK.inRound _) _ ?_
    repeat' ((try conv => whnf); first | refine And.intro rfl ?_ | refine .inr ⟨rfl, rfl, rfl, ?_⟩ | refine ⟨_, singles_rfl _, ?_⟩ | fail)
    rintro ⟨P2, N2, w2, X2, β2, fx2, y2, hy2, pk2, df2⟩ rfl rfl rfl hoff2 rfl; change y2.on = false at hoff2
    refine code_sound (more := more7 false _ _) more7_ok (FOK.inRound _) _ ?_
    repeat' ((try conv => whnf); first | refine .inr ⟨rfl, rfl, rfl, ?_⟩ | fail)
    refine ⟨⟨⟨rfl, rfl⟩, trivial⟩, ?_⟩
    repeat' ((try conv => whnf); first | refine Both.intro ?_ ?_ | refine And.intro rfl ?_ | refine And.intro bd ?_ | fail)
    · refine Le.map [(50, 11)] trivial ?_ rfl rfl rfl rfl
      (repeat' (first | exact trivial | refine And.intro ?_ ?_ | refine Exists.intro _ (And.intro rfl ?_) | exact SubA.lsl ls | fail))
      all_goals first
        | (refine SubA.lsl ?_; focus (simp; omega))
        | (refine rowEq ?_; focus (rw [List.take_succ_eq_append_getElem hk, List.map_append]; rfl))
    · trivial
  · intro _
    skip
    have e : (pairRows xs).length = xs.length := by simp [pairRows]
    exact Le.of ⟨SubA.lsl (by simp [e]), trivial⟩ ⟨rowEq (by simp [e]), trivial⟩ rfl rfl rfl
theorem collect_spec (l : List (Int × Int)) (f : FuncId) (caps : List PV) (hI : ISpec Try.prog f caps (pairRows l)) (hl : l.length ≤ 1000000) : GSpec Try.prog 38 1 ⟨numE 0 [.pure (.fn f caps)], [], []⟩ [] 1 ⟨[(0, .lsl 4 0 l.length)], [(4, some (.row 2 (l.map encP2)))], [4]⟩ := by
  refine GSpec.of_vc (fun Γ => more7 false Γ.P Γ.fx) (fun Γ => more7_ok) Try.func38 rfl Try.call38 (by decide) ?_
  rintro ⟨P, N, w0, X, β0, fx, y, hy, pk, df⟩ rfl rfl rfl hoff rfl; change y.on = false at hoff
  skip
  refine .inr ⟨[(50, 4)], [.pure (.val (.slice none 0 0)), .pure (.fn f caps)], [], [], [], 1, _, appendSeq_spec l f caps hI hl, ⟨Or.inl rfl, Or.inl rfl, trivial⟩, trivial, ?_⟩
  skip
  exact Le.of ⟨SubA.lsl rfl, trivial⟩ ⟨rfl, trivial⟩ rfl rfl rfl
end Go.Proofs.Ytlploeedieenbaa
/- Networks: Cut. Conditions: none. -/
namespace Go.Proofs.Ytlploeedieenbaa
open Go.Avc
noncomputable def Nt.cut (n : Nt) (a b : Int) (on : Bool) : Nt × Int := if n.check = 0 then (if Diff a b then (⟨n.queue, cutL n.apart (pairOf a b) on⟩, 0) else (zeroN, 1)) else (zeroN, n.check)
theorem swoP : Go.Sort.SWO fun x y : Int × Int => decide (cmpP x y < 0) where
  irrefl x := by simp only [decide_eq_false_iff_not, cmpP_lt]; exact ltP_irr
  trans x y z h1 h2 := by simp only [decide_eq_true_eq, cmpP_lt] at *; exact ltP_trans h1 h2
  ntrans x y z h1 h2 := by
    simp only [decide_eq_false_iff_not, cmpP_lt] at *
    intro h3
    rcases ltP_tri x y with h | rfl | h
    · exact h1 h
    · exact h2 h3
    · exact h2 (ltP_trans h h3)
set_option maxRecDepth 20000
set_option maxHeartbeats 4000000
set_option linter.unusedSimpArgs false
attribute [local irreducible] PSub Wp PSpec Le Need Both
theorem sortF_spec (n : Nt) (p : Int × Int) (hl : n.apart.length ≤ 1000000) (ha : ApOK n.apart n.apart.length) (hp : PrOK p) : GSpec Try.prog 40 2 ⟨numE 0 [.lsl 100 0 ((oth n.apart p).length + 1), .fn 35 []], [(100, some (.row 2 ((oth n.apart p ++ [p]).map encP2)))], [100]⟩ [100] 0 ⟨[], [(100, some (.row 2 ((cutL n.apart p true).map encP2)))], [100]⟩ := by
  have h := sort_spec Try.sortPr (k := 2) Try.isAgg55 Try.sizeOf55 encP2 cmpP swoP 35 (oth n.apart p ++ [p]) (cutL n.apart p true) (fun x _ y _ => compare_spec x y) (by simp)
    (by have : (oth n.apart p).length ≤ n.apart.length := List.length_filter_le _ _
        simp; omega) (cutL_on ha hp) 100
  rw [List.length_append] at h
  exact h
theorem cut_spec (n : Nt) (a b : Int) (on : Bool) (hq : n.queue.length ≤ 100000) (hl : n.apart.length ≤ 1000000) : PSpec Try.prog 18 [encN n, .int a, .int b, .bool on] (encNE (n.cut a b on)) := by
  have qc := check_spec n (by omega) hl
  have qd := different_spec a b
  have qp := pair_spec a b
  have e : n.cut a b on = if n.check = 0 then (if Diff a b then (⟨n.queue, cutL n.apart (pairOf a b) on⟩, 0) else (zeroN, 1)) else (zeroN, n.check) := rfl
  obtain ⟨c, hc⟩ : ∃ c, c = n.check := ⟨_, rfl⟩
  obtain ⟨d, hd⟩ : ∃ d, d = decide (Diff a b) := ⟨_, rfl⟩
  obtain ⟨p, hp⟩ : ∃ p, p = pairOf a b := ⟨_, rfl⟩
  rw [← hc] at qc e
  rw [← hd] at qd
  rw [← hp] at qp e
  by_cases h0 : c = 0
  · have hok := Nt.ok_of (hc ▸ h0)
    rw [if_pos h0] at e
    cases hd1 : d with
    | false =>
      have hnd : ¬ Diff a b := by rw [hd] at hd1; simpa using hd1
      rw [if_neg hnd] at e
      rw [hd1] at qd
      refine PSpec.of_vc (fun Γ => more7 false Γ.P Γ.fx) (fun Γ => more7_ok) Try.func18 rfl Try.call18 (by simp) ?_
      rintro ⟨P, N, w0, X, β0, fx, y, hy, pk, df⟩ rfl rfl rfl hoff rfl; change y.on = false at hoff
      skip
      refine .inl ⟨_, qc, ?_⟩
      repeat' ((try conv => whnf); first | (first | refine k3 (fun hb => ?_) fun hb => ?_ | refine k4 (fun hb => ?_) fun hb => ?_) <;> (try rw [List.length_map] at hb) <;> (try (exfalso; omega; done)) | fail)
      refine .inl ⟨_, qd, ?_⟩
      repeat' ((try conv => whnf); first | refine And.intro rfl ?_ | fail)
      exact sub_n0 e
    | true =>
      have hd0 : Diff a b := by rw [hd] at hd1; simpa using hd1
      rw [if_pos hd0] at e
      rw [hd1] at qd
      have hpo : PrOK p := hp ▸ pairOf_ok hd0
      have qo := others_spec n.apart p
      have qi := others1_spec n.apart p hl
      have hol : (oth n.apart p).length ≤ n.apart.length := List.length_filter_le _ _
      have qs := sortF_spec n p hl hok.2.2 hpo
      have ef := cutL_off hok.2.2 p
      refine PSpec.of_vc (fun Γ => more7 false Γ.P Γ.fx) (fun Γ => more7_ok) Try.func18 rfl Try.call18 (by simp) ?_
      rintro ⟨P, N, w0, X, β0, fx, y, hy, pk, df⟩ rfl rfl rfl hoff rfl; change y.on = false at hoff
      skip
      refine .inl ⟨_, qc, ?_⟩
      repeat' ((try conv => whnf); first | (first | refine k3 (fun hb => ?_) fun hb => ?_ | refine k4 (fun hb => ?_) fun hb => ?_) <;> (try rw [List.length_map] at hb) <;> (try (exfalso; omega; done)) | fail)
      refine .inl ⟨_, qd, ?_⟩
      skip
      refine .inl ⟨_, qp, ?_⟩
      repeat' ((try conv => whnf); first | refine And.intro rfl ?_ | refine .inr ⟨rfl, rfl, rfl, ?_⟩ | refine ⟨_, singles_rfl _, ?_⟩ | fail)
      refine .inl ⟨_, qo, ?_⟩
      repeat' ((try conv => whnf); first | refine And.intro rfl ?_ | fail)
      refine .inr ⟨[(4, 31)], [.pure (.fn 49 [.ptr [encA n.apart], .par 1 (singles (encP2 p))])], [], [], [], 1, _, collect_spec _ _ _ qi (by omega), ⟨Or.inl rfl, trivial⟩, trivial, ?_⟩
      repeat' ((try conv => whnf); first | refine k6 (fun hb => ?_) fun hb => ?_ | refine And.intro rfl ?_ | refine .inr ⟨rfl, rfl, rfl, ?_⟩ | fail)
      · refine ⟨⟨⟨rfl, rfl⟩, trivial⟩, ?_⟩
        repeat' ((try conv => whnf); first | refine And.intro bd ?_ | fail)
        refine .inr ⟨[(100, 36)], [.lsl 100 0 ((oth n.apart p).length + 1), .fn 35 []], [(100, some (.row 2 ((oth n.apart p ++ [p]).map encP2)))], [100], [100], 0, _, qs, ⟨?_, Or.inl rfl, trivial⟩, ⟨?_, trivial⟩, ?_⟩
        · refine Or.inl (congrArg (fun m => AV.lsl 36 0 m) ?_)
          simp
        · refine rowEq ?_
          rw [List.map_append]
          rfl
        repeat' ((try conv => whnf); first | refine And.intro rfl ?_ | fail)
        refine sub_ne (n := ⟨n.queue, cutL n.apart p on⟩) e ?_ ?_
        · rfl
        · rw [show on = true by assumption]
          have el : (cutL n.apart p true).length = (oth n.apart p).length + 1 := by rw [cutL_len hok.2.2 hpo, ← ef]; rfl
          rw [List.drop_zero, List.take_of_length_le (by simp [el])]
          rfl
      · refine sub_ne (n := ⟨n.queue, cutL n.apart p on⟩) e ?_ ?_
        · rfl
        · rw [show on = false by assumption, ← ef, List.drop_zero, List.take_of_length_le (by simp)]
          rfl
  · rw [if_neg h0] at e
    refine PSpec.of_vc (fun Γ => more7 false Γ.P Γ.fx) (fun Γ => more7_ok) Try.func18 rfl Try.call18 (by simp) ?_
    rintro ⟨P, N, w0, X, β0, fx, y, hy, pk, df⟩ rfl rfl rfl hoff rfl; change y.on = false at hoff
    skip
    refine .inl ⟨_, qc, ?_⟩
    repeat' ((try conv => whnf); first | (first | refine k3 (fun hb => ?_) fun hb => ?_ | refine k4 (fun hb => ?_) fun hb => ?_) <;> (try rw [List.length_map] at hb) <;> (try (exfalso; omega; done)) | refine And.intro rfl ?_ | fail)
    exact sub_n0 e
end Go.Proofs.Ytlploeedieenbaa
