/- Networks: the examples. Conditions: none. -/
import Derived.Test.YtlploeedieenbaaWd
import Derived.Test.YtlploeedieenbaaWh
set_option linter.unusedSimpArgs false
set_option linter.unusedVariables false
namespace Go.Proofs.Ytlploeedieenbaa
open Go.Avc
def exP : Pk := ⟨1, 3, [7]⟩
theorem exP_ok : exP.ok := by decide
theorem ok_of_q {l : List Pk} (h : (l.length : Int) ≤ 4096) (h1 : ∀ p ∈ l, p.ok) : Nt.ok ⟨l, []⟩ := ⟨h, h1, of_asc List.Pairwise.nil (by simp)⟩
theorem zeroN_ok : zeroN.ok := ok_of_q (by simp) (by simp)
theorem ex1 : zeroN.check = 0 := Nt.check_ok zeroN_ok
theorem ex2 : zeroN.deliver 0 = (zeroPk, zeroN, 1) := by
  have h : zeroN.chk 0 = 1 := by unfold Nt.chk; rw [if_pos ex1]; rfl
  unfold Nt.deliver; rw [h]; rfl
theorem ex3 : zeroN.send ⟨3, 3, []⟩ = (zeroN, 490) := by
  unfold Nt.send
  rw [if_neg]
  rintro ⟨_, h⟩
  exact absurd h (by decide)
theorem ex4 : zeroN.cut 2 2 true = (zeroN, 1) := by unfold Nt.cut; rw [if_pos ex1, if_neg (by decide)]
theorem ex5 : zeroN.send exP = (⟨[exP], []⟩, 0) := by
  unfold Nt.send
  rw [if_pos ⟨ex1, exP_ok⟩, if_neg (by decide)]; rfl
theorem a_ok : Nt.ok ⟨[exP], []⟩ := ok_of_q (by simp) (by simp [exP_ok])
theorem b_ok : Nt.ok ⟨[exP, exP], []⟩ := ok_of_q (by simp) (by simp [exP_ok])
theorem ex6 : Nt.again ⟨[exP], []⟩ 0 = (⟨[exP, exP], []⟩, 0) := by
  have h : Nt.chk ⟨[exP], []⟩ 0 = 0 := by unfold Nt.chk; rw [if_pos (Nt.check_ok a_ok)]; rfl
  unfold Nt.again; rw [if_pos h, if_neg (by decide)]; rfl
theorem cut13 : cutL [] (1, 3) true = [(1, 3)] := by decide +kernel
theorem ex7 : Nt.cut ⟨[exP, exP], []⟩ 3 1 true = (⟨[exP, exP], [(1, 3)]⟩, 0) := by
  unfold Nt.cut; rw [if_pos (Nt.check_ok b_ok), if_pos (by decide)]
  rw [show pairOf 3 1 = (1, 3) from rfl, cut13]
theorem ex8 : Nt.deliver ⟨[exP, exP], []⟩ 0 = (exP, ⟨[exP], []⟩, 0) := by
  have h : Nt.chk ⟨[exP, exP], []⟩ 0 = 0 := by unfold Nt.chk; rw [if_pos (Nt.check_ok b_ok)]; rfl
  unfold Nt.deliver; rw [if_pos h]; rfl
theorem c_ok : Nt.ok ⟨[exP, exP], [(1, 3)]⟩ := ⟨by simp, by simp [exP_ok], of_asc (by simp [Asc]) (by simp [PrOK])⟩
theorem ex9 : Nt.deliver ⟨[exP, exP], [(1, 3)]⟩ 1 = (zeroPk, ⟨[exP], [(1, 3)]⟩, 0) := by
  have h : Nt.chk ⟨[exP, exP], [(1, 3)]⟩ 1 = 0 := by unfold Nt.chk; rw [if_pos (Nt.check_ok c_ok)]; rfl
  unfold Nt.deliver; rw [if_pos h]; rfl
theorem ptup3 {P : Program} {f : FuncId} {args : List PV} {x : Pk × Nt × Int} {p : Pk} {n : Nt} {e e' : Int} (h : PSpec P f args (encPNE x)) (hx : x = (p, n, e)) (he : e' = e) : PSpec P f args (.tup [.agg (encPk p), encN n, .int e']) := by subst hx; subst he; exact h
theorem ptup2 {P : Program} {f : FuncId} {args : List PV} {x : Nt × Int} {n : Nt} {e e' : Int} (h : PSpec P f args (encNE x)) (hx : x = (n, e)) (he : e' = e) : PSpec P f args (.tup [encN n, .int e']) := by subst hx; subst he; exact h
set_option maxRecDepth 20000
set_option maxHeartbeats 4000000
set_option linter.unusedSimpArgs false
attribute [local irreducible] PSub Wp PSpec Le Need Both
theorem sane_spec : PSpec Try.prog 9 [] (.bool true) := by
  obtain ⟨z, hz⟩ : ∃ z : Int, z = 0 := ⟨_, rfl⟩
  obtain ⟨o, ho⟩ : ∃ o : Int, o = 1 := ⟨_, rfl⟩
  obtain ⟨u, hu⟩ : ∃ u : Int, u = 490 := ⟨_, rfl⟩
  obtain ⟨t, ht⟩ : ∃ t : Bool, t = true := ⟨_, rfl⟩
  obtain ⟨A, hA⟩ : ∃ A : Nt, A = ⟨[exP], []⟩ := ⟨_, rfl⟩
  obtain ⟨B, hB⟩ : ∃ B : Nt, B = ⟨[exP, exP], []⟩ := ⟨_, rfl⟩
  obtain ⟨C, hC⟩ : ∃ C : Nt, C = ⟨[exP, exP], [(1, 3)]⟩ := ⟨_, rfl⟩
  obtain ⟨D, hD⟩ : ∃ D : Nt, D = ⟨[exP], [(1, 3)]⟩ := ⟨_, rfl⟩
  have q0 := new_spec
  have q1 := check_spec zeroN (by simp [zeroN]) (by simp [zeroN])
  rw [ex1, ← hz] at q1
  have q2 := ptup3 (deliver_spec zeroN 0 (by simp [zeroN]) (by simp [zeroN])) ex2 ho
  have q3 := ptup2 (send_spec zeroN ⟨3, 3, []⟩ (by simp [zeroN]) (by simp [zeroN])) ex3 hu
  have q3' : PSpec Try.prog 11 [encN zeroN, .agg [.int 3, .int 3, .val (.slice none 0 0)]] (.tup [encN zeroN, .int u]) := PSpec.args q3 ⟨PSub.refl _, PSub.agg ⟨PSub.refl _, PSub.refl _, PSub.nil 1, trivial⟩, trivial⟩
  have q4 := ptup2 (cut_spec zeroN 2 2 true (by simp [zeroN]) (by simp [zeroN])) ex4 ho
  have q5 := ptup2 (send_spec zeroN exP (by simp [zeroN]) (by simp [zeroN])) ex5 hz
  have q6 := ptup2 (again_spec ⟨[exP], []⟩ 0 (by simp) (by simp)) ex6 hz
  have q7 := ptup2 (cut_spec ⟨[exP, exP], []⟩ 3 1 true (by simp) (by simp)) ex7 hz
  have q8 := ptup3 (deliver_spec ⟨[exP, exP], []⟩ 0 (by simp) (by simp)) ex8 hz
  have q9 := ptup3 (deliver_spec ⟨[exP, exP], [(1, 3)]⟩ 1 (by simp) (by simp)) ex9 hz
  have qa := samePk_spec exP exP
  rw [show decide (exP = exP) = t by rw [ht]; simp] at qa
  have qb := samePk_spec zeroPk zeroPk
  rw [show decide (zeroPk = zeroPk) = t by rw [ht]; simp] at qb
  have qb' : PSpec Try.prog 22 [.agg (encPk zeroPk), .agg [.val (.int .i64 0), .val (.int .i64 0), .val (.slice none 0 0)]] (.bool t) := PSpec.args qb ⟨PSub.refl _, PSub.agg ⟨PSub.refl _, PSub.refl _, PSub.nil 1, trivial⟩, trivial⟩
  have qc := same_spec ⟨[exP], []⟩ ⟨[exP], []⟩ (by simp) (by simp) (by simp) (by simp)
  rw [sameN_true rfl, ← ht] at qc
  rw [← hA] at q5 q6 q8 qc
  rw [← hB] at q6 q7 q8
  rw [← hC] at q7 q9
  rw [← hD] at q9
  have hc1 : C.queue.length = 2 := by rw [hC]; rfl
  have hc2 : C.apart.length = 1 := by rw [hC]; rfl
  have hc3 : C.apart[0] = (1, 3) := by simp [hC]
  have qe := prEq C.apart[0] (1, 3)
  rw [show decide (C.apart[0] = (1, 3)) = t by rw [ht]; simp [hc3]] at qe
  refine PSpec.of_vc (fun Γ => more7 false Γ.P Γ.fx) (fun Γ => more7_ok) Try.func9 rfl Try.call9 (by simp) ?_
  rintro ⟨P, N, w0, X, β0, fx, y, hy, pk, df⟩ rfl rfl rfl hoff rfl; change y.on = false at hoff
  skip
  refine .inl ⟨_, q0, ?_⟩
  repeat' ((try conv => whnf); first | refine And.intro rfl ?_ | fail)
  refine .inl ⟨_, q2, ?_⟩
  repeat' ((try conv => whnf); first | refine And.intro rfl ?_ | fail)
  refine .inl ⟨_, q3', ?_⟩
  repeat' ((try conv => whnf); first | refine And.intro rfl ?_ | fail)
  refine .inl ⟨_, q4, ?_⟩
  repeat' ((try conv => whnf); first | refine And.intro rfl ?_ | refine And.intro bd ?_ | fail)
  refine .inl ⟨_, q5, ?_⟩
  repeat' ((try conv => whnf); first | refine And.intro rfl ?_ | fail)
  refine .inl ⟨_, q6, ?_⟩
  repeat' ((try conv => whnf); first | refine And.intro rfl ?_ | fail)
  refine .inl ⟨_, q7, ?_⟩
  repeat' ((try conv => whnf); first | refine And.intro rfl ?_ | fail)
  refine .inl ⟨_, q8, ?_⟩
  repeat' ((try conv => whnf); first | refine And.intro rfl ?_ | fail)
  refine .inl ⟨_, q9, ?_⟩
  repeat' ((try conv => whnf); first | refine And.intro rfl ?_ | fail)
  refine .inl ⟨_, q1, ?_⟩
  repeat' ((try conv => whnf); first | (first | refine k3 (fun hb => ?_) fun hb => ?_ | refine k4 (fun hb => ?_) fun hb => ?_) <;> (try rw [List.length_map] at hb) <;> (try (exfalso; omega; done)) | fail)
  refine .inl ⟨_, qa, ?_⟩
  repeat' ((try conv => whnf); first | refine k6 (fun hb => ?_) fun hb => ?_ | fail)
  refine .inl ⟨_, qb', ?_⟩
  repeat' ((try conv => whnf); first | refine k6 (fun hb => ?_) fun hb => ?_ | fail)
  refine .inl ⟨_, qc, ?_⟩
  repeat' ((try conv => whnf); first | (first | refine k3 (fun hb => ?_) fun hb => ?_ | refine k4 (fun hb => ?_) fun hb => ?_) <;> (try rw [List.length_map] at hb) <;> (try (exfalso; omega; done)) | refine k6 (fun hb => ?_) fun hb => ?_ | refine s5 nm nm ?_ | refine .inl ⟨rfl, rfl, ?_⟩ | fail)
  · refine ⟨_, qe, isAp, isAg, ?_⟩
    repeat' ((try conv => whnf); first | refine k6 (fun hb => ?_) fun hb => ?_ | fail)
    · refine PSub.val_bool (decide_eq_true ?_)
      simp only [List.length_map]; omega
    · rw [ht] at *; exact absurd (show true = false by assumption) (by decide)
  all_goals first
    | (exfalso; omega)
    | (rw [ht] at *; exact absurd (show true = false by assumption) (by decide))
end Go.Proofs.Ytlploeedieenbaa
/- Networks: the laws NetworkSpec and NetworkMoveSpec. Conditions: none. -/
namespace Go.Proofs.Ytlploeedieenbaa
open Go.Avc
/-- Links with few packets and pairs. -/
def Nt.le (n : Nt) (k : Nat) : Prop := n.queue.length ≤ k ∧ n.apart.length ≤ k + 300
theorem zeroN_le (k : Nat) : zeroN.le k := ⟨Nat.zero_le _, Nat.zero_le _⟩
theorem Nt.le.mono {n : Nt} {k m : Nat} (h : n.le k) (hk : k ≤ m) : n.le m := ⟨Nat.le_trans h.1 hk, Nat.le_trans h.2 (by omega)⟩
theorem send_le {n : Nt} {k : Nat} (h : n.le k) (p : Pk) : (n.send p).1.le (k + 1) := by
  unfold Nt.send
  split
  · split
    · exact zeroN_le _
    · exact ⟨by simp; have := h.1; omega, by have := h.2; simp only; omega⟩
  · exact zeroN_le _
theorem erase_le {l : List Pk} {i k : Nat} (h : l.length ≤ k) : (l.eraseIdx i).length ≤ k := Nat.le_trans (List.length_eraseIdx_le ..) h
theorem lose_le {n : Nt} {k : Nat} (h : n.le k) (a : Int) : (n.lose a).1.le k := by
  unfold Nt.lose
  split
  · exact ⟨erase_le h.1, h.2⟩
  · exact zeroN_le _
theorem deliver_le {n : Nt} {k : Nat} (h : n.le k) (a : Int) : (n.deliver a).2.1.le k := by
  unfold Nt.deliver
  split
  · exact ⟨erase_le h.1, h.2⟩
  · exact zeroN_le _
theorem again_le {n : Nt} {k : Nat} (h : n.le k) (a : Int) : (n.again a).1.le (k + 1) := by
  unfold Nt.again
  split
  · split
    · exact zeroN_le _
    · exact ⟨by simp; have := h.1; omega, by have := h.2; simp only; omega⟩
  · exact zeroN_le _
theorem cut_le {n : Nt} {k : Nat} (h : n.le k) (a b : Int) (on : Bool) : (n.cut a b on).1.le k := by
  unfold Nt.cut
  split
  · split
    · refine ⟨h.1, ?_⟩
      refine Nat.le_trans (List.length_filter_le _ _) (Nat.le_trans (prs_len 16 17) (by omega))
    · exact zeroN_le _
  · exact zeroN_le _
theorem same_self (a : Nt) (h : a.le 100000) {t : Bool} (ht : t = true) : PSpec Try.prog 15 [encN a, encN a] (.bool t) := by
  have q := same_spec a a (by have := h.1; omega) (by have := h.2; omega) (by have := h.1; omega) (by have := h.2; omega)
  rwa [sameN_true rfl, ← ht] at q
theorem samePk_self (a : Pk) {t : Bool} (ht : t = true) : PSpec Try.prog 22 [.agg (encPk a), .agg (encPk a)] (.bool t) := by
  have q := samePk_spec a a
  rwa [show decide (a = a) = t by rw [ht]; simp] at q
theorem pair2 {P : Program} {f : FuncId} {args : List PV} {x : Nt × Int} (h : PSpec P f args (encNE x)) {n : Nt} {e : Int} (hn : n = x.1) (he : e = x.2) : PSpec P f args (.tup [encN n, .int e]) := by subst hn; subst he; exact h
theorem pair3 {P : Program} {f : FuncId} {args : List PV} {x : Pk × Nt × Int} (h : PSpec P f args (encPNE x)) {p : Pk} {n : Nt} {e : Int} (hp : p = x.1) (hn : n = x.2.1) (he : e = x.2.2) : PSpec P f args (.tup [.agg (encPk p), encN n, .int e]) := by subst hp; subst hn; subst he; exact h
def allI (a : Int) (i : Nat) : List Int := a :: (List.range i).map fun j : Nat => (j : Int)
theorem allI_len (a : Int) (i : Nat) : (allI a i).length = i + 1 := by simp [allI]
theorem allI_next (a : Int) (i : Nat) : allI a (i + 1) = allI a i ++ [(i : Int)] := by
  unfold allI
  rw [show List.range (i + 1) = List.range i ++ [i] from List.range_succ]
  simp
set_option maxRecDepth 20000
set_option maxHeartbeats 4000000
set_option linter.unusedSimpArgs false
attribute [local irreducible] PSub Wp PSpec Le Need Both
theorem rnew_spec : PSpec Try.prog 17 [] (encN zeroN) := by
  refine PSpec.of_vc (fun Γ => more7 false Γ.P Γ.fx) (fun Γ => more7_ok) Try.func17 rfl Try.call17 (by simp) ?_
  rintro ⟨P, N, w0, X, β0, fx, y, hy, pk, df⟩ rfl rfl rfl hoff rfl; change y.on = false at hoff
  repeat' ((try conv => whnf); first | refine And.intro rfl ?_ | fail)
  exact PSub.agg ⟨PSub.nil 3, PSub.nil 2, trivial⟩
theorem netSpec_law (n : Nt) (p : Pk) : PSpec Try.prog 3 [encN n, .agg (encPk p)] (.bool true) := by
  obtain ⟨t, ht⟩ : ∃ t : Bool, t = true := ⟨_, rfl⟩
  have q0 := sane_spec
  rw [← ht] at q0
  have qf := few_spec n
  obtain ⟨f, hf⟩ : ∃ f, f = fewN n := ⟨_, rfl⟩
  rw [← hf] at qf
  cases hf1 : f with
  | false =>
    rw [hf1] at qf
    refine PSpec.of_vc (fun Γ => more7 false Γ.P Γ.fx) (fun Γ => more7_ok) Try.func3 rfl Try.call3 (by simp) ?_
    rintro ⟨P, N, w0, X, β0, fx, y, hy, pk, df⟩ rfl rfl rfl hoff rfl; change y.on = false at hoff
    skip
    refine .inl ⟨_, q0, ?_⟩
    repeat' ((try conv => whnf); first | refine k5 (fun hb => ?_) fun hb => ?_ | fail)
    · refine .inl ⟨_, qf, ?_⟩
      skip
      exact PSub.refl _
    · subst ht; contradiction
  | true =>
    have hl := few_of (hf ▸ hf1)
    rw [hf1, ← ht] at qf
    have hle : n.le 40 := ⟨hl.1, by omega⟩
    obtain ⟨a, ha⟩ : ∃ a, a = (n.send p).1 := ⟨_, rfl⟩
    obtain ⟨e, he⟩ : ∃ e, e = (n.send p).2 := ⟨_, rfl⟩
    obtain ⟨c, hc⟩ : ∃ c, c = n.check := ⟨_, rfl⟩
    have qs := pair2 (send_spec n p (by omega) (by omega)) ha he
    have qr := pair2 (rsend_spec n p (by omega) (by omega)) ha he
    have qc := check_spec n (by omega) (by omega)
    have qd := rcheck_spec n (by omega) (by omega)
    rw [← hc] at qc qd
    have qe := same_self a (ha ▸ (send_le hle p).mono (by omega)) ht
    have qz := same_self zeroN (zeroN_le _) ht
    refine PSpec.of_vc (fun Γ => more7 false Γ.P Γ.fx) (fun Γ => more7_ok) Try.func3 rfl Try.call3 (by simp) ?_
    rintro ⟨P, N, w0, X, β0, fx, y, hy, pk, df⟩ rfl rfl rfl hoff rfl; change y.on = false at hoff
    skip
    refine .inl ⟨_, q0, ?_⟩
    repeat' ((try conv => whnf); first | refine k5 (fun hb => ?_) fun hb => ?_ | fail)
    refine .inl ⟨_, qf, ?_⟩
    repeat' ((try conv => whnf); first | refine k5 (fun hb => ?_) fun hb => ?_ | fail)
    refine .inl ⟨_, qs, ?_⟩
    repeat' ((try conv => whnf); first | refine And.intro rfl ?_ | fail)
    refine .inl ⟨_, qr, ?_⟩
    repeat' ((try conv => whnf); first | refine And.intro rfl ?_ | fail)
    refine Wp.draw (more := more7 true _ _) more7_det more7_ok FOK.wide rfl (by decide +kernel) (by conv => lhs; reduce) ?_
    skip
    refine ⟨_, qc, ?_⟩
    skip
    refine ⟨_, qd, ?_⟩
    repeat' ((try conv => whnf); first | (first | refine k3 (fun hb => ?_) fun hb => ?_ | refine k4 (fun hb => ?_) fun hb => ?_) <;> (try rw [List.length_map] at hb) <;> (try (exfalso; omega; done)) | fail)
    refine ⟨_, qe, ?_⟩
    repeat' ((try conv => whnf); first | (first | refine k3 (fun hb => ?_) fun hb => ?_ | refine k4 (fun hb => ?_) fun hb => ?_) <;> (try rw [List.length_map] at hb) <;> (try (exfalso; omega; done)) | refine k6 (fun hb => ?_) fun hb => ?_ | fail)
    refine ⟨_, new_spec, ?_⟩
    repeat' ((try conv => whnf); first | refine And.intro rfl ?_ | fail)
    refine ⟨_, rnew_spec, ?_⟩
    repeat' ((try conv => whnf); first | refine And.intro rfl ?_ | fail)
    refine ⟨_, qz, ?_⟩
    skip
    all_goals first
      | exact PSub.refl _
      | exact PSub.val_bool ht
      | (exfalso; subst ht; contradiction)
theorem move_round (n : Nt) (hle : n.le 40) (x : Int) {t : Bool} (ht : t = true) : ∃ (p : Pk) (c : Nt) (g : Int) (l : Nt) (h : Int) (r : Nt) (o : Int),
    PSpec Try.prog 20 [encN n, .int x] (.tup [.agg (encPk p), encN c, .int g]) ∧ PSpec Try.prog 21 [encN n, .int x] (.tup [.agg (encPk p), encN c, .int g]) ∧
    PSpec Try.prog 23 [encN n, .int x] (.tup [encN l, .int h]) ∧ PSpec Try.prog 24 [encN n, .int x] (.tup [encN l, .int h]) ∧
    PSpec Try.prog 25 [encN n, .int x] (.tup [encN r, .int o]) ∧ PSpec Try.prog 26 [encN n, .int x] (.tup [encN r, .int o]) ∧
    PSpec Try.prog 22 [.agg (encPk p), .agg (encPk p)] (.bool t) ∧ PSpec Try.prog 15 [encN c, encN c] (.bool t) ∧ PSpec Try.prog 15 [encN l, encN l] (.bool t) ∧ PSpec Try.prog 15 [encN r, encN r] (.bool t) := by
  have h1 := hle.1
  have h2 := hle.2
  exact ⟨_, _, _, _, _, _, _, pair3 (deliver_spec n x (by omega) (by omega)) rfl rfl rfl, pair3 (rdeliver_spec n x (by omega) (by omega)) rfl rfl rfl,
    pair2 (lose_spec n x (by omega) (by omega)) rfl rfl, pair2 (rlose_spec n x (by omega) (by omega)) rfl rfl, pair2 (again_spec n x (by omega) (by omega)) rfl rfl, pair2 (ragain_spec n x (by omega) (by omega)) rfl rfl,
    samePk_self _ ht, same_self _ ((deliver_le hle x).mono (by omega)) ht, same_self _ ((lose_le hle x).mono (by omega)) ht, same_self _ ((again_le hle x).mono (by omega)) ht⟩
theorem netMove_law (n : Nt) (at_ a b : Int) (on : Bool) : PSpec Try.prog 4 [encN n, .int at_, .int a, .int b, .bool on] (.bool true) := by
  obtain ⟨t, ht⟩ : ∃ t : Bool, t = true := ⟨_, rfl⟩
  have q0 := sane_spec
  rw [← ht] at q0
  have qf := few_spec n
  obtain ⟨f, hf⟩ : ∃ f, f = fewN n := ⟨_, rfl⟩
  rw [← hf] at qf
  cases hf1 : f with
  | false =>
    rw [hf1] at qf
    refine PSpec.of_vc (fun Γ => more7 false Γ.P Γ.fx) (fun Γ => more7_ok) Try.func4 rfl Try.call4 (by simp) ?_
    rintro ⟨P, N, w0, X, β0, fx, y, hy, pk, df⟩ rfl rfl rfl hoff rfl; change y.on = false at hoff
    skip
    refine .inl ⟨_, q0, ?_⟩
    repeat' ((try conv => whnf); first | refine k5 (fun hb => ?_) fun hb => ?_ | fail)
    · refine .inl ⟨_, qf, ?_⟩
      skip
      exact PSub.refl _
    · subst ht; contradiction
  | true =>
    have hl := few_of (hf ▸ hf1)
    rw [hf1, ← ht] at qf
    have hle : n.le 40 := ⟨hl.1, by omega⟩
    obtain ⟨x, hx⟩ : ∃ x, x = (n.cut a b on).1 := ⟨_, rfl⟩
    obtain ⟨e, he⟩ : ∃ e, e = (n.cut a b on).2 := ⟨_, rfl⟩
    have qs := pair2 (cut_spec n a b on (by omega) (by omega)) hx he
    have qr := pair2 (rcut_spec n a b on (by omega) (by omega)) hx he
    have qe := same_self x (hx ▸ (cut_le hle a b on).mono (by omega)) ht
    refine PSpec.of_vc (fun Γ => more7 false Γ.P Γ.fx) (fun Γ => more7_ok) Try.func4 rfl Try.call4 (by simp) ?_
    rintro ⟨P, N, w0, X, β0, fx, y, hy, pk, df⟩ rfl rfl rfl hoff rfl; change y.on = false at hoff
    skip
    refine .inl ⟨_, q0, ?_⟩
    repeat' ((try conv => whnf); first | refine k5 (fun hb => ?_) fun hb => ?_ | fail)
    refine .inl ⟨_, qf, ?_⟩
    repeat' ((try conv => whnf); first | refine k5 (fun hb => ?_) fun hb => ?_ | fail)
    refine .inl ⟨_, qs, ?_⟩
    repeat' ((try conv => whnf); first | refine And.intro rfl ?_ | fail)
    refine .inl ⟨_, qr, ?_⟩
    repeat' ((try conv => whnf); first | refine And.intro rfl ?_ | fail)
    refine .inl ⟨_, qe, ?_⟩
    repeat' ((try conv => whnf); first | (first | refine k3 (fun hb => ?_) fun hb => ?_ | refine k4 (fun hb => ?_) fun hb => ?_) <;> (try rw [List.length_map] at hb) <;> (try (exfalso; omega; done)) | refine k5 (fun hb => ?_) fun hb => ?_ | refine And.intro bd ?_ | fail)
    all_goals first
      | exact PSub.refl _
      | exact PSub.val_bool ht
      | (exfalso; subst ht; contradiction)
      | skip
    refine Wp.loop (fun i : Nat => ⟨[(5, .loc 5 0 0), (15, .lsl 300 0 (allI at_ i).length), (16, .int i)], [(5, some (.box [.pure (encQ n.queue), .pure (encA n.apart)])), (300, some (.row 1 ((allI at_ i).map fun x => [.int x])))], [5, 300]⟩)
      (fun i => i ≤ 3 ∧ i ≤ n.queue.length) (fun i => 3 - i) 0 (Le.map [(300, 56)] ?_ ?_ rfl rfl rfl rfl) (by omega) ?_
    · (repeat' (first | exact trivial | refine And.intro ?_ ?_ | exact Or.inl rfl | fail))
    · (repeat' (first | exact trivial | exact rfl | refine And.intro ?_ ?_ | refine Exists.intro _ (And.intro rfl ?_) | exact Or.inl rfl | fail))
    intro i ⟨hi, hin⟩
    have hal := allI_len at_ i
    by_cases hi2 : i < 3 ∧ i < n.queue.length
    · have hn := allI_next at_ i
      refine code_sound (more := more7 false _ _) more7_ok FOK.wide _ ?_
      repeat' ((try conv => whnf); first | (first | refine k3 (fun hb => ?_) fun hb => ?_ | refine k4 (fun hb => ?_) fun hb => ?_) <;> (try rw [List.length_map] at hb) <;> (try (exfalso; omega; done)) | refine s4 nm ?_ | refine And.intro bd ?_ | fail)
      refine ⟨i + 1, Le.map [(300, 71)] ?_ ?_ rfl rfl rfl rfl, by omega, by omega⟩
      · rw [hn]
        (repeat' (first | exact trivial | refine And.intro ?_ ?_ | exact Or.inl rfl | exact SubA.lsl ls | fail))
        all_goals (refine SubA.lsl ?_; simp)
      · rw [hn]
        (repeat' (first | exact trivial | refine And.intro ?_ ?_ | refine Exists.intro _ (And.intro rfl ?_) | exact Or.inl rfl | exact rowEq rs | fail))
        all_goals (refine rowEq ?_; simp)
    · refine code_sound (more := more7 false _ _) more7_ok FOK.wide _ ?_
      repeat' ((try conv => whnf); first | (first | refine k3 (fun hb => ?_) fun hb => ?_ | refine k4 (fun hb => ?_) fun hb => ?_) <;> (try rw [List.length_map] at hb) <;> (try (exfalso; omega; done)) | fail)
      all_goals (
        refine Wp.loop (fun k : Nat => ⟨[(5, .loc 5 0 0), (72, .lsl 300 0 (allI at_ i).length), (73, .int (allI at_ i).length), (74, .int k)], [(5, some (.box [.pure (encQ n.queue), .pure (encA n.apart)])), (300, some (.row 1 ((allI at_ i).map fun x => [.int x])))], [5, 300]⟩)
          (fun k => k ≤ (allI at_ i).length) (fun k => (allI at_ i).length - k) 0 (Le.of ?_ ?_ rfl rfl rfl) (by omega) ?_
        · (repeat' (first | exact trivial | refine And.intro ?_ ?_ | exact Or.inl rfl | fail))
        · (repeat' (first | exact trivial | exact rfl | refine And.intro ?_ ?_ | refine Exists.intro _ (And.intro rfl ?_) | exact Or.inl rfl | fail))
        intro k hk
        by_cases hk2 : k < (allI at_ i).length
        · obtain ⟨p, c, g, l, h, r, o, r1, r2, r3, r4, r5, r6, r7, r8, r9, ra⟩ := move_round n hle ((allI at_ i)[0 + (k : Int).toNat]'(by omega)) ht
          refine code_sound (more := more7 false _ _) more7_ok FOK.wide _ ?_
          repeat' ((try conv => whnf); first | (first | refine k3 (fun hb => ?_) fun hb => ?_ | refine k4 (fun hb => ?_) fun hb => ?_) <;> (try rw [List.length_map] at hb) <;> (try (exfalso; omega; done)) | refine And.intro bd ?_ | refine ⟨_, _, getMapN nm, rfl, ?_⟩ | fail)
          refine .inl ⟨_, r1, ?_⟩
          repeat' ((try conv => whnf); first | refine And.intro rfl ?_ | fail)
          refine .inl ⟨_, r2, ?_⟩
          repeat' ((try conv => whnf); first | refine And.intro rfl ?_ | fail)
          refine .inl ⟨_, r7, ?_⟩
          repeat' ((try conv => whnf); first | refine k5 (fun hb => ?_) fun hb => ?_ | fail)
          · refine .inl ⟨_, r8, ?_⟩
            repeat' ((try conv => whnf); first | (first | refine k3 (fun hb => ?_) fun hb => ?_ | refine k4 (fun hb => ?_) fun hb => ?_) <;> (try rw [List.length_map] at hb) <;> (try (exfalso; omega; done)) | refine k5 (fun hb => ?_) fun hb => ?_ | fail)
            · refine .inl ⟨_, r3, ?_⟩
              repeat' ((try conv => whnf); first | refine And.intro rfl ?_ | fail)
              refine .inl ⟨_, r4, ?_⟩
              repeat' ((try conv => whnf); first | refine And.intro rfl ?_ | fail)
              refine .inl ⟨_, r9, ?_⟩
              repeat' ((try conv => whnf); first | (first | refine k3 (fun hb => ?_) fun hb => ?_ | refine k4 (fun hb => ?_) fun hb => ?_) <;> (try rw [List.length_map] at hb) <;> (try (exfalso; omega; done)) | refine k5 (fun hb => ?_) fun hb => ?_ | fail)
              · refine .inl ⟨_, r5, ?_⟩
                repeat' ((try conv => whnf); first | refine And.intro rfl ?_ | fail)
                refine .inl ⟨_, r6, ?_⟩
                repeat' ((try conv => whnf); first | refine And.intro rfl ?_ | fail)
                refine .inl ⟨_, ra, ?_⟩
                repeat' ((try conv => whnf); first | (first | refine k3 (fun hb => ?_) fun hb => ?_ | refine k4 (fun hb => ?_) fun hb => ?_) <;> (try rw [List.length_map] at hb) <;> (try (exfalso; omega; done)) | refine k5 (fun hb => ?_) fun hb => ?_ | refine s4 nm ?_ | fail)
                all_goals first
                  | exact PSub.refl _
                  | exact PSub.val_bool ht
                  | (exfalso; subst ht; contradiction)
                  | skip
                refine ⟨k + 1, Le.of (by (repeat' (first | exact trivial | refine And.intro ?_ ?_ | exact Or.inl rfl | fail))) (by (repeat' (first | exact trivial | exact rfl | refine And.intro ?_ ?_ | refine Exists.intro _ (And.intro rfl ?_) | exact Or.inl rfl | fail))) rfl rfl rfl, by omega, by omega⟩
              all_goals first
                | exact PSub.refl _
                | exact PSub.val_bool ht
                | (exfalso; subst ht; contradiction)
            all_goals first
              | exact PSub.refl _
              | exact PSub.val_bool ht
              | (exfalso; subst ht; contradiction)
          all_goals first
            | exact PSub.refl _
            | exact PSub.val_bool ht
            | (exfalso; subst ht; contradiction)
        · refine code_sound (more := more7 false _ _) more7_ok FOK.wide _ ?_
          repeat' ((try conv => whnf); first | (first | refine k3 (fun hb => ?_) fun hb => ?_ | refine k4 (fun hb => ?_) fun hb => ?_) <;> (try rw [List.length_map] at hb) <;> (try (exfalso; omega; done)) | fail)
          exact PSub.refl _)
end Go.Proofs.Ytlploeedieenbaa
/- Networks: what happens to valid links; the law NetworkLost. Conditions: none. -/
namespace Go.Proofs.Ytlploeedieenbaa
open Go.Avc
theorem ok_erase {n : Nt} (h : n.ok) (i : Nat) : Nt.ok ⟨n.queue.eraseIdx i, n.apart⟩ :=
  ⟨by have := h.1; have := erase_le (i := i) (Nat.le_refl n.queue.length); simp only; omega, fun p hp => h.2.1 p (List.mem_of_mem_eraseIdx hp), h.2.2⟩
theorem ok_push {n : Nt} (h : n.ok) {q : Pk} (hq : q.ok) (hl : n.queue.length < 4096) : Nt.ok ⟨n.queue ++ [q], n.apart⟩ :=
  ⟨by simp; omega, fun p hp => by
    rcases List.mem_append.1 hp with hp | hp
    · exact h.2.1 p hp
    · rw [List.mem_singleton.1 hp]; exact hq, h.2.2⟩
theorem ok_cut {n : Nt} (h : n.ok) (p : Int × Int) (on : Bool) : Nt.ok ⟨n.queue, cutL n.apart p on⟩ := ⟨h.1, h.2.1, (canon_ok (fun q => if q = p then on else decide (q ∈ n.apart)) : ApOK (cutL n.apart p on) (cutL n.apart p on).length)⟩
theorem chk_of {n : Nt} (h : n.ok) {i : Nat} (hi : i < n.queue.length) : n.chk i = 0 := by
  unfold Nt.chk
  rw [if_pos (Nt.check_ok h), if_pos ⟨by omega, by omega⟩]
theorem lose_of {n : Nt} (h : n.ok) {i : Nat} (hi : i < n.queue.length) : n.lose i = (⟨n.queue.eraseIdx i, n.apart⟩, 0) := by
  unfold Nt.lose
  rw [if_pos (chk_of h hi)]; rfl
theorem deliver_of {n : Nt} (h : n.ok) {i : Nat} (hi : i < n.queue.length) : n.deliver i = ((if pairOf n.queue[i].src n.queue[i].dst ∈ n.apart then zeroPk else n.queue[i]), ⟨n.queue.eraseIdx i, n.apart⟩, 0) := by
  have eg : n.queue.getD i zeroPk = n.queue[i] := by simp [List.getD, hi]
  unfold Nt.deliver Nt.cutOff
  rw [if_pos (chk_of h hi), Int.toNat_natCast, eg]
  simp only [decide_eq_true_eq]
theorem again_of {n : Nt} (h : n.ok) {i : Nat} (hi : i < n.queue.length) (hl : n.queue.length < 4096) : n.again i = (⟨n.queue ++ [n.queue[i]], n.apart⟩, 0) := by
  have eg : n.queue.getD i zeroPk = n.queue[i] := by simp [List.getD, hi]
  unfold Nt.again
  rw [if_pos (chk_of h hi), if_neg (by omega), Int.toNat_natCast, eg]
theorem send_of {n : Nt} (h : n.ok) {q : Pk} (hq : q.ok) (hl : n.queue.length < 4096) : n.send q = (⟨n.queue ++ [q], n.apart⟩, 0) := by
  unfold Nt.send
  rw [if_pos ⟨Nt.check_ok h, hq⟩, if_neg (by omega)]
theorem cut_of {n : Nt} (h : n.ok) {a b : Int} (hd : Diff a b) (on : Bool) : n.cut a b on = (⟨n.queue, cutL n.apart (pairOf a b) on⟩, 0) := by
  unfold Nt.cut
  rw [if_pos (Nt.check_ok h), if_pos hd]
theorem wrapU {n : Nat} (h : n < 18446744073709551616) : IntKind.u64.wrap (n : Int) = n := by simp [IntKind.wrap, IntKind.bits, IntKind.signed]; omega
theorem modU {m n i : Nat} (hi : i = m % n) : ((m : Int)).tmod (n : Int) = (i : Int) := by
  rw [hi]; first | exact (Int.ofNat_tmod m n).symm | (rw [Int.tmod_eq_emod_of_nonneg (by omega)]; exact (Int.natCast_emod m n).symm) | (rw [Int.tmod_eq_emod_of_nonneg (by omega)]; simp)
theorem diff_comm {a b : Int} (h : Diff a b) : Diff b a := by unfold Diff at *; omega
set_option maxRecDepth 20000
set_option maxHeartbeats 4000000
set_option linter.unusedSimpArgs false
attribute [local irreducible] PSub Wp PSpec Le Need Both
theorem lost_law (n : Nt) (m : Nat) : PSpec Try.prog 8 [encN n, .val (.int .u64 (m : Int))] (.bool true) := by
  obtain ⟨t, ht⟩ : ∃ t : Bool, t = true := ⟨_, rfl⟩
  obtain ⟨z, hz⟩ : ∃ z : Int, z = 0 := ⟨_, rfl⟩
  have q0 := sane_spec
  rw [← ht] at q0
  have qf := few_spec n
  obtain ⟨f, hf⟩ : ∃ f, f = fewN n := ⟨_, rfl⟩
  rw [← hf] at qf
  by_cases hall : f = true ∧ n.ok ∧ 0 < n.queue.length
  case neg =>
    have qc := fun h : f = true => check_spec n (by have := few_of (hf ▸ h); omega) (by have := few_of (hf ▸ h); omega)
    obtain ⟨c, hc⟩ : ∃ c, c = n.check := ⟨_, rfl⟩
    rw [← hc] at qc
    refine PSpec.of_vc (fun Γ => more7 false Γ.P Γ.fx) (fun Γ => more7_ok) Try.func8 rfl Try.call8 (by simp) ?_
    rintro ⟨P, N, w0, X, β0, fx, y, hy, pk, df⟩ rfl rfl rfl hoff rfl; change y.on = false at hoff
    skip
    refine .inl ⟨_, q0, ?_⟩
    repeat' ((try conv => whnf); first | refine k5 (fun hb => ?_) fun hb => ?_ | fail)
    · refine .inl ⟨_, qf, ?_⟩
      repeat' ((try conv => whnf); first | refine k5 (fun hb => ?_) fun hb => ?_ | fail)
      · refine .inl ⟨_, qc (by assumption), ?_⟩
        repeat' ((try conv => whnf); first | (first | refine k3 (fun hb => ?_) fun hb => ?_ | refine k4 (fun hb => ?_) fun hb => ?_) <;> (try rw [List.length_map] at hb) <;> (try (exfalso; omega; done)) | fail)
        all_goals first
          | exact PSub.refl _
          | exact PSub.val_bool ht
          | (exfalso; subst ht; contradiction)
          | (exfalso; omega)
          | skip
        exfalso
        have hok : n.ok := Nt.ok_of (by rw [← hc]; assumption)
        exact hall ⟨by assumption, hok, by (try simp only [List.length_map] at *); omega⟩
      all_goals first
        | exact PSub.refl _
        | exact PSub.val_bool ht
        | (exfalso; subst ht; contradiction)
        | (exfalso; omega)
    all_goals first
      | exact PSub.refl _
      | exact PSub.val_bool ht
      | (exfalso; subst ht; contradiction)
      | (exfalso; omega)
  obtain ⟨hf1, hok, hpos⟩ := hall
  have hl := few_of (hf ▸ hf1)
  have hle : n.le 40 := ⟨hl.1, by omega⟩
  rw [hf1, ← ht] at qf
  have qc := check_spec n (by omega) (by omega)
  rw [Nt.check_ok hok, ← hz] at qc
  obtain ⟨i, hi⟩ : ∃ i, i = m % n.queue.length := ⟨_, rfl⟩
  have hil : i < n.queue.length := by rw [hi]; exact Nat.mod_lt _ hpos
  have hqo : n.queue[i].ok := hok.2.1 _ (List.getElem_mem hil)
  obtain ⟨L, hL⟩ : ∃ L : Nt, L = ⟨n.queue.eraseIdx i, n.apart⟩ := ⟨_, rfl⟩
  obtain ⟨C, hC⟩ : ∃ C : Nt, C = ⟨n.queue ++ [n.queue[i]], n.apart⟩ := ⟨_, rfl⟩
  obtain ⟨D, hD⟩ : ∃ D : Nt, D = ⟨n.queue.eraseIdx i ++ [n.queue[i]], n.apart⟩ := ⟨_, rfl⟩
  obtain ⟨p, hp⟩ : ∃ p : Pk, p = (if pairOf n.queue[i].src n.queue[i].dst ∈ n.apart then zeroPk else n.queue[i]) := ⟨_, rfl⟩
  have hLok : L.ok := hL ▸ ok_erase hok i
  have hCok : C.ok := hC ▸ ok_push hok hqo (by omega)
  have hLle : L.le 40 := hL ▸ ⟨erase_le hl.1, by simp only; omega⟩
  have hCl : C.queue.length = n.queue.length + 1 := by rw [hC]; simp
  have hCle : C.le 41 := ⟨by omega, by rw [hC]; simp only; omega⟩
  have hDle : D.le 41 := by
    have h1 : (n.queue.eraseIdx i).length ≤ 40 := erase_le hl.1
    rw [hD]
    exact ⟨by simp; omega, by simp only; omega⟩
  have q1 := ptup3 (deliver_spec n i (by omega) (by omega)) (by rw [deliver_of hok hil, ← hL, ← hp]) hz
  have q2 := ptup2 (lose_spec n i (by omega) (by omega)) (by rw [lose_of hok hil, ← hL]) hz
  have q3 := ptup2 (again_spec n i (by omega) (by omega)) (by rw [again_of hok hil (by omega), ← hC]) hz
  have q4 := ptup2 (lose_spec C i (by have := hCle.1; omega) (by have := hCle.2; omega)) (n := D) (by
    rw [lose_of hCok (by omega), hC, hD]
    simp only
    rw [List.eraseIdx_append_of_lt_length hil]) hz
  have q5 := ptup2 (send_spec L n.queue[i] (by have := hLle.1; omega) (by have := hLle.2; omega)) (n := D) (by
    rw [send_of hLok hqo (by have := hLle.1; omega), hL, hD]) hz
  have q6 := same_self L (hLle.mono (by omega)) ht
  have q7 := same_self D (hDle.mono (by omega)) ht
  refine PSpec.of_vc (fun Γ => more7 false Γ.P Γ.fx) (fun Γ => more7_ok) Try.func8 rfl Try.call8 (by simp) ?_
  rintro ⟨P, N, w0, X, β0, fx, y, hy, pk, df⟩ rfl rfl rfl hoff rfl; change y.on = false at hoff
  skip
  refine .inl ⟨_, q0, ?_⟩
  repeat' ((try conv => whnf); first | refine k5 (fun hb => ?_) fun hb => ?_ | fail)
  refine .inl ⟨_, qf, ?_⟩
  repeat' ((try conv => whnf); first | refine k5 (fun hb => ?_) fun hb => ?_ | fail)
  refine .inl ⟨_, qc, ?_⟩
  repeat' ((try conv => whnf); first | (first | refine k3 (fun hb => ?_) fun hb => ?_ | refine k4 (fun hb => ?_) fun hb => ?_) <;> (try rw [List.length_map] at hb) <;> (try (exfalso; omega; done)) | fail)
  · refine ⟨(n.queue.length : Int), by rw [List.length_map]; exact wrapU (by omega), ?_⟩
    repeat' ((try conv => whnf); first | refine And.intro bd ?_ | fail)
    refine ⟨(i : Int), modU hi, ?_⟩
    repeat' ((try conv => whnf); first | refine s4 nm ?_ | fail)
    refine .inl ⟨_, q1, ?_⟩
    repeat' ((try conv => whnf); first | refine And.intro rfl ?_ | fail)
    refine .inl ⟨_, q2, ?_⟩
    repeat' ((try conv => whnf); first | refine And.intro rfl ?_ | fail)
    refine .inl ⟨_, q3, ?_⟩
    repeat' ((try conv => whnf); first | refine And.intro rfl ?_ | fail)
    refine .inl ⟨_, q4, ?_⟩
    repeat' ((try conv => whnf); first | refine And.intro rfl ?_ | fail)
    refine Wp.draw (more := more7 true _ _) more7_det more7_ok FOK.wide rfl (by decide +kernel) (by conv => lhs; reduce) ?_
    repeat' ((try conv => whnf); first | refine s5 nm nm ?_ | fail)
    refine ⟨_, q5, ?_⟩
    repeat' ((try conv => whnf); first | (first | refine k3 (fun hb => ?_) fun hb => ?_ | refine k4 (fun hb => ?_) fun hb => ?_) <;> (try rw [List.length_map] at hb) <;> (try (exfalso; omega; done)) | refine And.intro rfl ?_ | fail)
    refine .inl ⟨_, q6, ?_⟩
    repeat' ((try conv => whnf); first | refine k6 (fun hb => ?_) fun hb => ?_ | fail)
    · refine .inl ⟨_, q7, ?_⟩
      repeat' ((try conv => whnf); first | refine k6 (fun hb => ?_) fun hb => ?_ | refine s4 nm ?_ | fail)
      · refine PSub.val_bool (decide_eq_true ?_)
        simp only [List.length_map]; omega
      all_goals first
        | exact PSub.refl _
        | exact PSub.val_bool ht
        | (exfalso; subst ht; contradiction)
        | (exfalso; omega)
    all_goals first
      | exact PSub.refl _
      | exact PSub.val_bool ht
      | (exfalso; subst ht; contradiction)
      | (exfalso; omega)
  all_goals first
    | exact PSub.refl _
    | exact PSub.val_bool ht
    | (exfalso; subst ht; contradiction)
    | (exfalso; omega)
end Go.Proofs.Ytlploeedieenbaa
