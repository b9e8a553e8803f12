/- Networks: a thing that happens. Conditions: none. -/
import Derived.Test.YtlploeedieenbaaWd
import Derived.Test.YtlploeedieenbaaWi
set_option linter.unusedSimpArgs false
set_option linter.unusedVariables false
namespace Go.Proofs.Ytlploeedieenbaa
open Go.Avc
structure Mv where
  kind : UInt8
  at_ : UInt8
  a : UInt8
  b : UInt8
  data : UInt8
def encMv (m : Mv) : List PV := [.val (.int .u8 m.kind.toNat), .val (.int .u8 m.at_.toNat), .val (.int .u8 m.a.toNat), .val (.int .u8 m.b.toNat), .val (.int .u8 m.data.toNat)]
def Mv.k (m : Mv) : Nat := m.kind.toNat % 6
def Mv.i (m : Mv) (n : Nt) : Nat := if 0 < n.queue.length then m.at_.toNat % n.queue.length else 0
def Mv.x (m : Mv) : Nat := m.a.toNat % 16
def Mv.y (m : Mv) : Nat := m.b.toNat % 16
/-- What there is behind a move, what was delivered, and the error. -/
noncomputable def Nt.hap (n : Nt) (m : Mv) : Nt × Pk × Int :=
  if m.k = 0 then ((n.send ⟨m.x, m.y, [m.data]⟩).1, zeroPk, (n.send ⟨m.x, m.y, [m.data]⟩).2)
  else if m.k = 1 then ((n.deliver (m.i n)).2.1, (n.deliver (m.i n)).1, (n.deliver (m.i n)).2.2)
  else if m.k = 2 then ((n.lose (m.i n)).1, zeroPk, (n.lose (m.i n)).2)
  else if m.k = 3 then ((n.again (m.i n)).1, zeroPk, (n.again (m.i n)).2)
  else ((n.cut m.x m.y (decide (m.k = 4))).1, zeroPk, (n.cut m.x m.y (decide (m.k = 4))).2)
def encNPE (x : Nt × Pk × Int) : PV := .tup [encN x.1, .agg (encPk x.2.1), .int x.2.2]
theorem sub_npe {x : Nt × Pk × Int} {n : Nt} {p : Pk} {e : Int} (hn : n = x.1) (hp : p = x.2.1) (he : e = x.2.2) : PSub (.tup [encN n, .agg (encPk p), .int e]) (encNPE x) := by
  subst hn; subst hp; subst he; exact PSub.refl _
theorem sub_npz {x : Nt × Pk × Int} {n : Nt} {e : Int} (hn : n = x.1) (hp : zeroPk = x.2.1) (he : e = x.2.2) : PSub (.tup [encN n, .agg [.val (.int .i64 0), .val (.int .i64 0), .val (.slice none 0 0)], .int e]) (encNPE x) :=
  PSub.trans (q := .tup [encN n, .agg (encPk zeroPk), .int e]) (PSub.tup ⟨PSub.refl _, zeroPk_sub, PSub.refl _, trivial⟩) (sub_npe hn hp he)
theorem mod6 {m i : Nat} (hi : i = m % 6) : ((m : Int)).tmod 6 = (i : Int) := modU hi
theorem mod16 {m i : Nat} (hi : i = m % 16) : ((m : Int)).tmod 16 = (i : Int) := modU hi
theorem k_lt (m : Mv) : m.k < 6 := Nat.mod_lt _ (by decide)
set_option maxRecDepth 20000
set_option maxHeartbeats 4000000
set_option linter.unusedSimpArgs false
attribute [local irreducible] PSub Wp PSpec Le Need Both
theorem happens_spec (n : Nt) (m : Mv) (hle : n.le 1000) : PSpec Try.prog 27 [encN n, .agg (encMv m)] (encNPE (n.hap m)) := by
  have h1 := hle.1
  have h2 := hle.2
  have hk := k_lt m
  have hx : m.x < 16 := Nat.mod_lt _ (by decide)
  have hy : m.y < 16 := Nat.mod_lt _ (by decide)
  have q0 := pair2 (send_spec n ⟨m.x, m.y, [m.data]⟩ (by omega) (by omega)) rfl rfl
  have q1 := pair3 (deliver_spec n (m.i n) (by omega) (by omega)) rfl rfl rfl
  have q2 := pair2 (lose_spec n (m.i n) (by omega) (by omega)) rfl rfl
  have q3 := pair2 (again_spec n (m.i n) (by omega) (by omega)) rfl rfl
  have q4 := fun on => pair2 (cut_spec n m.x m.y on (by omega) (by omega)) rfl rfl
  obtain ⟨r, hr⟩ : ∃ r, r = n.hap m := ⟨_, rfl⟩
  rw [← hr]
  have e : r = n.hap m := hr
  unfold Nt.hap at e
  have hi : m.i n = if 0 < n.queue.length then m.at_.toNat % n.queue.length else 0 := rfl
  obtain ⟨i, hii⟩ : ∃ i, i = m.i n := ⟨_, rfl⟩
  obtain ⟨kk, hkk⟩ : ∃ kk, kk = m.k := ⟨_, rfl⟩
  rw [← hii] at q1 q2 q3 e hi
  rw [← hkk] at hk
  simp only [← hkk] at e
  refine PSpec.of_vc (fun Γ => more7 false Γ.P Γ.fx) (fun Γ => more7_ok) Try.func27 rfl Try.call27 (by simp) ?_
  rintro ⟨P, N, w0, X, β0, fx, y, hy, pk, df⟩ rfl rfl rfl hoff rfl; change y.on = false at hoff
  repeat' ((try conv => whnf); first | (first | refine k3 (fun hb => ?_) fun hb => ?_ | refine k4 (fun hb => ?_) fun hb => ?_) <;> (try rw [List.length_map] at hb) <;> (try (exfalso; omega; done)) | refine s1 ?_ | refine And.intro bd ?_ | fail)
  · refine ⟨(i : Int), by rw [List.length_map]; exact modU (by rw [hi, if_pos (by omega)]), ?_⟩
    skip
    refine Wp.draw (more := more7 true _ _) more7_det more7_ok FOK.wide rfl (by decide +kernel) (by conv => lhs; reduce) ?_
    repeat' ((try conv => whnf); first | refine s1 ?_ | refine And.intro bd ?_ | fail)
    refine ⟨(m.x : Int), mod16 rfl, ?_⟩
    repeat' ((try conv => whnf); first | refine s1 ?_ | refine And.intro bd ?_ | fail)
    refine ⟨(m.y : Int), mod16 rfl, ?_⟩
    repeat' ((try conv => whnf); first | refine And.intro bd ?_ | fail)
    refine ⟨(kk : Int), mod6 hkk, ?_⟩
    repeat' ((try conv => whnf); first | (first | refine k3 (fun hb => ?_) fun hb => ?_ | refine k4 (fun hb => ?_) fun hb => ?_) <;> (try rw [List.length_map] at hb) <;> (try (exfalso; omega; done)) | refine And.intro bd ?_ | fail)
    · refine .inl ⟨_, q0, ?_⟩
      repeat' ((try conv => whnf); first | refine And.intro rfl ?_ | fail)
      refine Wp.draw (more := more7 true _ _) more7_det more7_ok FOK.wide rfl (by decide +kernel) (by conv => lhs; reduce) ?_
      repeat' ((try conv => whnf); first | refine And.intro rfl ?_ | fail)
      rw [if_pos (by omega)] at e
      exact sub_npz (by rw [e]) (by rw [e]) (by rw [e])
    · refine .inl ⟨_, q1, ?_⟩
      repeat' ((try conv => whnf); first | refine And.intro rfl ?_ | fail)
      refine Wp.draw (more := more7 true _ _) more7_det more7_ok FOK.wide rfl (by decide +kernel) (by conv => lhs; reduce) ?_
      repeat' ((try conv => whnf); first | refine And.intro rfl ?_ | fail)
      rw [if_neg (by omega), if_pos (by omega)] at e
      exact sub_npe (by rw [e]) (by rw [e]) (by rw [e])
    · refine .inl ⟨_, q2, ?_⟩
      repeat' ((try conv => whnf); first | refine And.intro rfl ?_ | fail)
      refine Wp.draw (more := more7 true _ _) more7_det more7_ok FOK.wide rfl (by decide +kernel) (by conv => lhs; reduce) ?_
      repeat' ((try conv => whnf); first | refine And.intro rfl ?_ | fail)
      rw [if_neg (by omega), if_neg (by omega), if_pos (by omega)] at e
      exact sub_npz (by rw [e]) (by rw [e]) (by rw [e])
    · refine .inl ⟨_, q3, ?_⟩
      repeat' ((try conv => whnf); first | refine And.intro rfl ?_ | fail)
      refine Wp.draw (more := more7 true _ _) more7_det more7_ok FOK.wide rfl (by decide +kernel) (by conv => lhs; reduce) ?_
      repeat' ((try conv => whnf); first | refine And.intro rfl ?_ | fail)
      rw [if_neg (by omega), if_neg (by omega), if_neg (by omega), if_pos (by omega)] at e
      exact sub_npz (by rw [e]) (by rw [e]) (by rw [e])
    · refine .inl ⟨_, q4 true, ?_⟩
      repeat' ((try conv => whnf); first | refine And.intro rfl ?_ | fail)
      refine Wp.draw (more := more7 true _ _) more7_det more7_ok FOK.wide rfl (by decide +kernel) (by conv => lhs; reduce) ?_
      repeat' ((try conv => whnf); first | refine And.intro rfl ?_ | fail)
      rw [if_neg (by omega), if_neg (by omega), if_neg (by omega), if_neg (by omega), decide_eq_true (show kk = 4 by omega)] at e
      exact sub_npz (by rw [e]) (by rw [e]) (by rw [e])
    · refine .inl ⟨_, q4 false, ?_⟩
      repeat' ((try conv => whnf); first | refine And.intro rfl ?_ | fail)
      refine Wp.draw (more := more7 true _ _) more7_det more7_ok FOK.wide rfl (by decide +kernel) (by conv => lhs; reduce) ?_
      repeat' ((try conv => whnf); first | refine And.intro rfl ?_ | fail)
      rw [if_neg (by omega), if_neg (by omega), if_neg (by omega), if_neg (by omega), decide_eq_false (show ¬ kk = 4 by omega)] at e
      exact sub_npz (by rw [e]) (by rw [e]) (by rw [e])
    all_goals (exfalso; omega)
  · have hi0 : i = 0 := by rw [hi, if_neg (by omega)]
    rw [hi0] at q1 q2 q3 e
    refine Wp.draw (more := more7 true _ _) more7_det more7_ok FOK.wide rfl (by decide +kernel) (by conv => lhs; reduce) ?_
    repeat' ((try conv => whnf); first | refine s1 ?_ | refine And.intro bd ?_ | fail)
    refine ⟨(m.x : Int), mod16 rfl, ?_⟩
    repeat' ((try conv => whnf); first | refine s1 ?_ | refine And.intro bd ?_ | fail)
    refine ⟨(m.y : Int), mod16 rfl, ?_⟩
    repeat' ((try conv => whnf); first | refine And.intro bd ?_ | fail)
    refine ⟨(kk : Int), mod6 hkk, ?_⟩
    repeat' ((try conv => whnf); first | (first | refine k3 (fun hb => ?_) fun hb => ?_ | refine k4 (fun hb => ?_) fun hb => ?_) <;> (try rw [List.length_map] at hb) <;> (try (exfalso; omega; done)) | refine And.intro bd ?_ | fail)
    · refine .inl ⟨_, q0, ?_⟩
      repeat' ((try conv => whnf); first | refine And.intro rfl ?_ | fail)
      refine Wp.draw (more := more7 true _ _) more7_det more7_ok FOK.wide rfl (by decide +kernel) (by conv => lhs; reduce) ?_
      repeat' ((try conv => whnf); first | refine And.intro rfl ?_ | fail)
      rw [if_pos (by omega)] at e
      exact sub_npz (by rw [e]) (by rw [e]) (by rw [e])
    · refine .inl ⟨_, q1, ?_⟩
      repeat' ((try conv => whnf); first | refine And.intro rfl ?_ | fail)
      refine Wp.draw (more := more7 true _ _) more7_det more7_ok FOK.wide rfl (by decide +kernel) (by conv => lhs; reduce) ?_
      repeat' ((try conv => whnf); first | refine And.intro rfl ?_ | fail)
      rw [if_neg (by omega), if_pos (by omega)] at e
      exact sub_npe (by rw [e]) (by rw [e]) (by rw [e])
    · refine .inl ⟨_, q2, ?_⟩
      repeat' ((try conv => whnf); first | refine And.intro rfl ?_ | fail)
      refine Wp.draw (more := more7 true _ _) more7_det more7_ok FOK.wide rfl (by decide +kernel) (by conv => lhs; reduce) ?_
      repeat' ((try conv => whnf); first | refine And.intro rfl ?_ | fail)
      rw [if_neg (by omega), if_neg (by omega), if_pos (by omega)] at e
      exact sub_npz (by rw [e]) (by rw [e]) (by rw [e])
    · refine .inl ⟨_, q3, ?_⟩
      repeat' ((try conv => whnf); first | refine And.intro rfl ?_ | fail)
      refine Wp.draw (more := more7 true _ _) more7_det more7_ok FOK.wide rfl (by decide +kernel) (by conv => lhs; reduce) ?_
      repeat' ((try conv => whnf); first | refine And.intro rfl ?_ | fail)
      rw [if_neg (by omega), if_neg (by omega), if_neg (by omega), if_pos (by omega)] at e
      exact sub_npz (by rw [e]) (by rw [e]) (by rw [e])
    · refine .inl ⟨_, q4 true, ?_⟩
      repeat' ((try conv => whnf); first | refine And.intro rfl ?_ | fail)
      refine Wp.draw (more := more7 true _ _) more7_det more7_ok FOK.wide rfl (by decide +kernel) (by conv => lhs; reduce) ?_
      repeat' ((try conv => whnf); first | refine And.intro rfl ?_ | fail)
      rw [if_neg (by omega), if_neg (by omega), if_neg (by omega), if_neg (by omega), decide_eq_true (show kk = 4 by omega)] at e
      exact sub_npz (by rw [e]) (by rw [e]) (by rw [e])
    · refine .inl ⟨_, q4 false, ?_⟩
      repeat' ((try conv => whnf); first | refine And.intro rfl ?_ | fail)
      refine Wp.draw (more := more7 true _ _) more7_det more7_ok FOK.wide rfl (by decide +kernel) (by conv => lhs; reduce) ?_
      repeat' ((try conv => whnf); first | refine And.intro rfl ?_ | fail)
      rw [if_neg (by omega), if_neg (by omega), if_neg (by omega), if_neg (by omega), decide_eq_false (show ¬ kk = 4 by omega)] at e
      exact sub_npz (by rw [e]) (by rw [e]) (by rw [e])
    all_goals (exfalso; omega)
end Go.Proofs.Ytlploeedieenbaa
/- Networks: what a thing that happens leaves. Conditions: none. -/
namespace Go.Proofs.Ytlploeedieenbaa
open Go.Avc
theorem send_z (n : Nt) (q : Pk) : ((n.send q).2 = 0 ∧ n.ok ∧ q.ok ∧ n.queue.length < 4096 ∧ (n.send q).1 = ⟨n.queue ++ [q], n.apart⟩) ∨ ((n.send q).2 ≠ 0 ∧ (n.send q).1 = zeroN) := by
  unfold Nt.send
  split
  · rename_i h
    split
    · exact .inr ⟨by simp, rfl⟩
    · have h1 := Nt.ok_of h.1
      have := h1.1
      exact .inl ⟨rfl, h1, h.2, by omega, rfl⟩
  · exact .inr ⟨by simp, rfl⟩
theorem chk_z {n : Nt} {i : Nat} (h : n.chk i = 0) : n.ok ∧ i < n.queue.length := ⟨Nt.ok_of (chk_check h), by have := (chk_rng h).2; omega⟩
theorem lose_z (n : Nt) (i : Nat) : ((n.lose i).2 = 0 ∧ n.ok ∧ i < n.queue.length ∧ (n.lose i).1 = ⟨n.queue.eraseIdx i, n.apart⟩) ∨ ((n.lose i).2 ≠ 0 ∧ (n.lose i).1 = zeroN) := by
  unfold Nt.lose
  by_cases h : n.chk i = 0
  · rw [if_pos h]; exact .inl ⟨rfl, (chk_z h).1, (chk_z h).2, rfl⟩
  · rw [if_neg h]; exact .inr ⟨h, rfl⟩
theorem deliver_z (n : Nt) (i : Nat) : ((n.deliver i).2.2 = 0 ∧ n.ok ∧ i < n.queue.length ∧ (n.deliver i).2.1 = ⟨n.queue.eraseIdx i, n.apart⟩ ∧ ((n.deliver i).1 ∈ n.queue ∨ ((n.deliver i).1 = zeroPk ∧ n.apart ≠ []))) ∨ ((n.deliver i).2.2 ≠ 0 ∧ (n.deliver i).2.1 = zeroN) := by
  by_cases h : n.chk i = 0
  · obtain ⟨h1, h2⟩ := chk_z h
    rw [deliver_of h1 h2]
    refine .inl ⟨rfl, h1, h2, rfl, ?_⟩
    split
    · rename_i hm
      exact .inr ⟨rfl, fun e => by rw [e] at hm; cases hm⟩
    · exact .inl (List.getElem_mem h2)
  · unfold Nt.deliver
    rw [if_neg h]
    exact .inr ⟨h, rfl⟩
theorem again_z (n : Nt) (i : Nat) : ((n.again i).2 = 0 ∧ n.ok ∧ n.queue.length < 4096 ∧ ∃ h : i < n.queue.length, (n.again i).1 = ⟨n.queue ++ [n.queue[i]], n.apart⟩) ∨ ((n.again i).2 ≠ 0 ∧ (n.again i).1 = zeroN) := by
  by_cases h : n.chk i = 0
  · obtain ⟨h1, h2⟩ := chk_z h
    by_cases hl : n.queue.length < 4096
    · rw [again_of h1 h2 hl]
      exact .inl ⟨rfl, h1, hl, h2, rfl⟩
    · have := h1.1
      unfold Nt.again
      rw [if_pos h, if_pos (by omega)]
      exact .inr ⟨by simp, rfl⟩
  · unfold Nt.again
    rw [if_neg h]
    exact .inr ⟨h, rfl⟩
theorem cut_z (n : Nt) (a b : Int) (on : Bool) : ((n.cut a b on).2 = 0 ∧ n.ok ∧ (n.cut a b on).1 = ⟨n.queue, cutL n.apart (pairOf a b) on⟩) ∨ ((n.cut a b on).2 ≠ 0 ∧ (n.cut a b on).1 = zeroN) := by
  unfold Nt.cut
  by_cases h : n.check = 0
  · rw [if_pos h]
    split
    · exact .inl ⟨rfl, Nt.ok_of h, rfl⟩
    · exact .inr ⟨by simp, rfl⟩
  · rw [if_neg h]
    exact .inr ⟨h, rfl⟩
theorem cutL_nil (p : Int × Int) : cutL [] p false = [] := by
  unfold cutL canon
  rw [List.filter_eq_nil_iff]
  intro q _
  by_cases e : q = p <;> simp [e]
/-- What a move leaves: an error and nothing, or valid links. -/
def HapIs (n : Nt) (m : Mv) (x : Nt) (p : Pk) (e : Int) : Prop :=
  (e ≠ 0 ∧ x = zeroN) ∨ (e = 0 ∧ x.ok ∧ x.queue.length ≤ n.queue.length + 1 ∧ (m.k = 0 → ∃ q, x.queue = n.queue ++ [q]) ∧ (m.k ≠ 0 → ∀ q ∈ x.queue, q ∈ n.queue) ∧ (m.k = 1 → p ∈ n.queue ∨ (p = zeroPk ∧ n.apart ≠ [])) ∧ (m.k ≠ 4 → n.apart = [] → x.apart = []))
theorem hap_is (n : Nt) (m : Mv) : HapIs n m (n.hap m).1 (n.hap m).2.1 (n.hap m).2.2 := by
  have hk := k_lt m
  unfold HapIs Nt.hap
  by_cases k0 : m.k = 0
  · rw [if_pos k0]
    rcases send_z n ⟨m.x, m.y, [m.data]⟩ with ⟨h1, h2, h3, h4, h5⟩ | ⟨h1, h2⟩
    · refine .inr ⟨h1, ?_⟩
      simp only [h5]
      exact ⟨ok_push h2 h3 h4, by simp, fun _ => ⟨_, rfl⟩, fun h => absurd k0 h, fun h => by omega, fun _ h => h⟩
    · exact .inl ⟨h1, h2⟩
  rw [if_neg k0]
  by_cases k1 : m.k = 1
  · rw [if_pos k1]
    rcases deliver_z n (m.i n) with ⟨h1, h2, h3, h4, h5⟩ | ⟨h1, h2⟩
    · refine .inr ⟨h1, ?_⟩
      simp only [h4]
      exact ⟨ok_erase h2 _, Nat.le_trans (erase_le (Nat.le_refl _)) (by omega), fun h => absurd h k0, fun _ q hq => List.mem_of_mem_eraseIdx hq, fun _ => h5, fun _ h => h⟩
    · exact .inl ⟨h1, h2⟩
  rw [if_neg k1]
  by_cases k2 : m.k = 2
  · rw [if_pos k2]
    rcases lose_z n (m.i n) with ⟨h1, h2, h3, h4⟩ | ⟨h1, h2⟩
    · refine .inr ⟨h1, ?_⟩
      simp only [h4]
      exact ⟨ok_erase h2 _, Nat.le_trans (erase_le (Nat.le_refl _)) (by omega), fun h => absurd h k0, fun _ q hq => List.mem_of_mem_eraseIdx hq, fun h => absurd h k1, fun _ h => h⟩
    · exact .inl ⟨h1, h2⟩
  rw [if_neg k2]
  by_cases k3 : m.k = 3
  · rw [if_pos k3]
    rcases again_z n (m.i n) with ⟨h1, h2, h3, h4, h5⟩ | ⟨h1, h2⟩
    · refine .inr ⟨h1, ?_⟩
      simp only [h5]
      refine ⟨ok_push h2 (h2.2.1 _ (List.getElem_mem h4)) h3, by simp, fun h => absurd h k0, fun _ q hq => ?_, fun h => absurd h k1, fun _ h => h⟩
      rcases List.mem_append.1 hq with hq | hq
      · exact hq
      · rw [List.mem_singleton.1 hq]; exact List.getElem_mem h4
    · exact .inl ⟨h1, h2⟩
  rw [if_neg k3]
  rcases cut_z n m.x m.y (decide (m.k = 4)) with ⟨h1, h2, h3⟩ | ⟨h1, h2⟩
  · refine .inr ⟨h1, ?_⟩
    simp only [h3]
    refine ⟨ok_cut h2 _ _, by simp, fun h => absurd h k0, fun _ q hq => hq, fun h => absurd h k1, fun h4 h => ?_⟩
    rw [h, decide_eq_false h4]
    exact cutL_nil _
  · exact .inl ⟨h1, h2⟩
end Go.Proofs.Ytlploeedieenbaa
/- Networks: the law NetworkOnlySent. Conditions: none. -/
namespace Go.Proofs.Ytlploeedieenbaa
open Go.Avc
theorem ok_ap {n : Nt} (h : n.ok) : n.apart.length ≤ 300 := by
  have e : n.apart = canon fun q => decide (q ∈ n.apart) := asc_uniq (asc_of h.2.2) (asc_canon _) fun q => by
    rw [mem_canon]
    simp only [decide_eq_true_eq]
    exact ⟨fun hq => ⟨ap_mem h.2.2 q hq, hq⟩, fun hq => hq.2⟩
  rw [e]
  exact Nat.le_trans (List.length_filter_le _ _) (Nat.le_trans (prs_len 16 17) (by omega))
def encMs (l : List Mv) : PV := .sl 5 (l.map encMv)
structure OS where
  i : Nat
  n : Nt
  S : List Pk
  c : Nat
structure OS.ok (s : OS) (L : Nat) : Prop where
  le : s.i ≤ L
  nok : s.n.ok
  len : s.n.queue.length ≤ s.i
  sub : ∀ q ∈ s.n.queue, q ∈ s.S
  cut : s.c = 0 → s.n.apart = []
  cle : s.c ≤ s.i
  sle : s.S.length ≤ s.i
def osSt (l : List Mv) (s : OS) : St := ⟨[(0, .pure (encMs l)), (3, .loc 3 0 0), (4, .lsl 300 0 s.S.length), (5, .int s.c), (6, .int s.i)], [(3, some (.box [.pure (encQ s.n.queue), .pure (encA s.n.apart)])), (300, some (.row 3 (s.S.map encPk)))], [3, 300]⟩
theorem last_at {l A : List Pk} {q : Pk} (h : l = A ++ [q]) (hk : ((l.length : Int) - 1).toNat < l.length) : l[((l.length : Int) - 1).toNat] = q := by
  subst h
  have e : (((A ++ [q]).length : Int) - 1).toNat = A.length := by simp
  simp only [e]
  simp
def metL (b : Bool) (S : List Pk) (p : Pk) : Bool := b || S.any fun q => decide (q = p)
theorem metL_next {b : Bool} {S : List Pk} {p : Pk} {k : Nat} (h : k < S.length) : metL b (S.take (k + 1)) p = (metL b (S.take k) p || decide (S[k] = p)) := by
  unfold metL
  rw [List.take_succ_eq_append_getElem h, List.any_append]
  simp [Bool.or_assoc]
theorem metL_true {b : Bool} {S : List Pk} {p : Pk} (h : b = true ∨ p ∈ S) : metL b S p = true := by
  unfold metL
  rcases h with h | h
  · simp [h]
  · have : (S.any fun q => decide (q = p)) = true := List.any_eq_true.2 ⟨p, h, by simp⟩
    simp [this]
set_option maxRecDepth 20000
set_option maxHeartbeats 4000000
set_option linter.unusedSimpArgs false
attribute [local irreducible] PSub Wp PSpec Le Need Both
attribute [local irreducible] metL
theorem only_law (l : List Mv) : PSpec Try.prog 5 [encMs l] (.bool true) := by
  obtain ⟨t, ht⟩ : ∃ t : Bool, t = true := ⟨_, rfl⟩
  obtain ⟨z, hz⟩ : ∃ z : Int, z = 0 := ⟨_, rfl⟩
  have q0 := sane_spec
  rw [← ht] at q0
  refine PSpec.bd Try.call5 fun hbd => ?_
  have hbl : l.length ≤ 9223372036854775807 := by
    simp only [encMs, PV.bd, bdL, List.length_map] at hbd
    exact hbd.1.1
  refine PSpec.of_vc (fun Γ => more7 false Γ.P Γ.fx) (fun Γ => more7_ok) Try.func5 rfl Try.call5 (by simp) ?_
  rintro ⟨P, N, w0, X, β0, fx, y, hy, pk, df⟩ rfl rfl rfl hoff rfl; change y.on = false at hoff
  skip
  refine .inl ⟨_, q0, ?_⟩
  repeat' ((try conv => whnf); first | (first | refine k3 (fun hb => ?_) fun hb => ?_ | refine k4 (fun hb => ?_) fun hb => ?_) <;> (try rw [List.length_map] at hb) <;> (try (exfalso; omega; done)) | refine k5 (fun hb => ?_) fun hb => ?_ | fail)
  all_goals first
    | exact PSub.refl _
    | exact PSub.val_bool ht
    | (exfalso; subst ht; contradiction)
    | (exfalso; omega)
    | (exfalso; simp only [List.length_map] at *; omega)
    | skip
  refine .inl ⟨_, new_spec, ?_⟩
  repeat' ((try conv => whnf); first | refine And.intro rfl ?_ | fail)
  have hl60 : l.length ≤ 60 := by omega
  refine Wp.loop (osSt l) (fun s => s.ok l.length) (fun s => l.length - s.i) ⟨0, zeroN, [], 0⟩ (Le.trans (Le.virt (k := 300) (sz := 3) rfl rfl (by omega)) (Le.of ?_ ?_ rfl rfl rfl)) ⟨Nat.zero_le _, zeroN_ok, Nat.zero_le _, (fun q hq => by cases hq), fun _ => rfl, Nat.le_refl _, Nat.le_refl _⟩ ?_
  · (repeat' (first | exact trivial | refine And.intro ?_ ?_ | exact Or.inl rfl | exact l6 rfl | fail))
  · (repeat' (first | exact trivial | exact rfl | refine And.intro ?_ ?_ | refine Exists.intro _ (And.intro rfl ?_) | exact Or.inl rfl | fail))
  rintro ⟨i, n, S, c⟩ hs
  have v1 : i ≤ l.length := hs.le
  have v2 : n.ok := hs.nok
  have v3 : n.queue.length ≤ i := hs.len
  have v4 : ∀ q ∈ n.queue, q ∈ S := hs.sub
  have v5 : c = 0 → n.apart = [] := hs.cut
  have v6 : c ≤ i := hs.cle
  have v7 : S.length ≤ i := hs.sle
  have v8 := ok_ap v2
  unfold osSt
  dsimp only
  by_cases hi2 : i < l.length
  case neg =>
    refine code_sound (more := more7 false _ _) more7_ok FOK.wide _ ?_
    repeat' ((try conv => whnf); first | (first | refine k3 (fun hb => ?_) fun hb => ?_ | refine k4 (fun hb => ?_) fun hb => ?_) <;> (try rw [List.length_map] at hb) <;> (try (exfalso; omega; done)) | fail)
    exact PSub.refl _
  have qh := happens_spec n l[i] ⟨by omega, by omega⟩
  have hh := hap_is n l[i]
  obtain ⟨x, hx⟩ : ∃ x, x = (n.hap l[i]).1 := ⟨_, rfl⟩
  obtain ⟨p, hp⟩ : ∃ p, p = (n.hap l[i]).2.1 := ⟨_, rfl⟩
  obtain ⟨e, he⟩ : ∃ e, e = (n.hap l[i]).2.2 := ⟨_, rfl⟩
  unfold encNPE at qh
  rw [← hx, ← hp, ← he] at qh hh
  rcases hh with ⟨he0, hx0⟩ | ⟨he0, g1, g2, g3, g4, g5, g6⟩
  · have qc := check_spec n (by omega) (by omega)
    rw [Nt.check_ok v2, ← hz] at qc
    have qs := same_self zeroN (zeroN_le _) ht
    have qs' : PSpec Try.prog 15 [encN x, .agg [.val (.slice none 0 0), .val (.slice none 0 0)]] (.bool t) := PSpec.args qs ⟨by rw [hx0]; exact PSub.refl _, PSub.agg ⟨PSub.nil 3, PSub.nil 2, trivial⟩, trivial⟩
    refine code_sound (more := more7 false _ _) more7_ok FOK.wide _ ?_
    repeat' ((try conv => whnf); first | (first | refine k3 (fun hb => ?_) fun hb => ?_ | refine k4 (fun hb => ?_) fun hb => ?_) <;> (try rw [List.length_map] at hb) <;> (try (exfalso; omega; done)) | fail)
    refine Wp.draw (more := more7 true _ _) more7_det more7_ok FOK.wide rfl (by decide +kernel) (by conv => lhs; reduce) ?_
    repeat' ((try conv => whnf); first | refine s5 nm nm ?_ | fail)
    refine ⟨_, qh, ?_⟩
    repeat' ((try conv => whnf); first | (first | refine k3 (fun hb => ?_) fun hb => ?_ | refine k4 (fun hb => ?_) fun hb => ?_) <;> (try rw [List.length_map] at hb) <;> (try (exfalso; omega; done)) | refine And.intro rfl ?_ | fail)
    refine .inl ⟨_, qc, ?_⟩
    repeat' ((try conv => whnf); first | (first | refine k3 (fun hb => ?_) fun hb => ?_ | refine k4 (fun hb => ?_) fun hb => ?_) <;> (try rw [List.length_map] at hb) <;> (try (exfalso; omega; done)) | fail)
    refine .inl ⟨_, qs', ?_⟩
    repeat' ((try conv => whnf); first | refine k5 (fun hb => ?_) fun hb => ?_ | refine s4 nm ?_ | fail)
    all_goals first
      | exact PSub.refl _
      | exact PSub.val_bool ht
      | (exfalso; subst ht; contradiction)
      | (exfalso; omega)
      | (exfalso; simp only [List.length_map] at *; omega)
      | skip
    refine ⟨⟨i + 1, n, S, c⟩, Le.of ?_ ?_ rfl rfl rfl, ⟨by simp only; omega, v2, by simp only; omega, v4, v5, by simp only; omega, by simp only; omega⟩, by simp only; omega⟩
    · (repeat' (first | exact trivial | refine And.intro ?_ ?_ | exact Or.inl rfl | fail))
    · (repeat' (first | exact trivial | exact rfl | refine And.intro ?_ ?_ | refine Exists.intro _ (And.intro rfl ?_) | exact Or.inl rfl | fail))
  have g7 := ok_ap g1
  have qc := check_spec x (by omega) (by omega)
  rw [Nt.check_ok g1, ← hz] at qc
  by_cases kd0 : l[i].k = 0
  · obtain ⟨q, hq⟩ := g3 kd0
    have hql : 0 < x.queue.length := by rw [hq]; simp
    refine code_sound (more := more7 false _ _) more7_ok FOK.wide _ ?_
    repeat' ((try conv => whnf); first | (first | refine k3 (fun hb => ?_) fun hb => ?_ | refine k4 (fun hb => ?_) fun hb => ?_) <;> (try rw [List.length_map] at hb) <;> (try (exfalso; omega; done)) | fail)
    refine Wp.draw (more := more7 true _ _) more7_det more7_ok FOK.wide rfl (by decide +kernel) (by conv => lhs; reduce) ?_
    repeat' ((try conv => whnf); first | refine s5 nm nm ?_ | fail)
    refine ⟨_, qh, ?_⟩
    repeat' ((try conv => whnf); first | (first | refine k3 (fun hb => ?_) fun hb => ?_ | refine k4 (fun hb => ?_) fun hb => ?_) <;> (try rw [List.length_map] at hb) <;> (try (exfalso; omega; done)) | refine And.intro rfl ?_ | refine s5 nm nm ?_ | refine And.intro bd ?_ | fail)
    refine ⟨((l[i].k : Nat) : Int), mod6 rfl, ?_⟩
    repeat' ((try conv => whnf); first | (first | refine k3 (fun hb => ?_) fun hb => ?_ | refine k4 (fun hb => ?_) fun hb => ?_) <;> (try rw [List.length_map] at hb) <;> (try (exfalso; omega; done)) | refine And.intro rfl ?_ | refine s4 nm ?_ | refine s6 nm nm ?_ | refine And.intro bd ?_ | fail)
    refine .inl ⟨_, qc, ?_⟩
    repeat' ((try conv => whnf); first | (first | refine k3 (fun hb => ?_) fun hb => ?_ | refine k4 (fun hb => ?_) fun hb => ?_) <;> (try rw [List.length_map] at hb) <;> (try (exfalso; omega; done)) | refine s4 nm ?_ | fail)
    refine ⟨⟨i + 1, x, S ++ [q], c⟩, Le.map [(300, 67)] ?_ ?_ rfl rfl rfl rfl, ⟨by simp only; omega, g1, by simp only; omega, ?_, fun h => g6 (by omega) (v5 h), by simp only; omega, by simp; omega⟩, by simp only; omega⟩
    · (repeat' (first | exact trivial | refine And.intro ?_ ?_ | exact Or.inl rfl | exact SubA.lsl ls | fail))
      all_goals (refine SubA.lsl ?_; simp)
    · (repeat' (first | exact trivial | refine And.intro ?_ ?_ | refine Exists.intro _ (And.intro rfl ?_) | exact Or.inl rfl | fail))
      all_goals (refine rowEq ?_; rw [List.map_append]; refine congrArg (fun z => S.map encPk ++ [encPk z]) ?_; simp only [List.length_map]; exact last_at hq _)
    · intro q' hq'
      simp only at hq' ⊢
      rw [hq] at hq'
      rcases List.mem_append.1 hq' with h | h
      · exact List.mem_append_left _ (v4 _ h)
      · exact List.mem_append_right _ h
  by_cases kd1 : l[i].k = 1
  · have hsubs := g4 kd0
    refine code_sound (more := more7 false _ _) more7_ok FOK.wide _ ?_
    repeat' ((try conv => whnf); first | (first | refine k3 (fun hb => ?_) fun hb => ?_ | refine k4 (fun hb => ?_) fun hb => ?_) <;> (try rw [List.length_map] at hb) <;> (try (exfalso; omega; done)) | fail)
    refine Wp.draw (more := more7 true _ _) more7_det more7_ok FOK.wide rfl (by decide +kernel) (by conv => lhs; reduce) ?_
    repeat' ((try conv => whnf); first | refine s5 nm nm ?_ | fail)
    refine ⟨_, qh, ?_⟩
    repeat' ((try conv => whnf); first | (first | refine k3 (fun hb => ?_) fun hb => ?_ | refine k4 (fun hb => ?_) fun hb => ?_) <;> (try rw [List.length_map] at hb) <;> (try (exfalso; omega; done)) | refine And.intro rfl ?_ | refine s5 nm nm ?_ | refine And.intro bd ?_ | fail)
    refine ⟨((l[i].k : Nat) : Int), mod6 rfl, ?_⟩
    repeat' ((try conv => whnf); first | (first | refine k3 (fun hb => ?_) fun hb => ?_ | refine k4 (fun hb => ?_) fun hb => ?_) <;> (try rw [List.length_map] at hb) <;> (try (exfalso; omega; done)) | fail)
    obtain ⟨b0, hb0⟩ : ∃ b0, b0 = decide (p = zeroPk) := ⟨_, rfl⟩
    have q9 := samePk_spec p zeroPk
    have m1 : decide (0 < (c : Int)) = true ∨ p ∈ S := by
      rcases g5 kd1 with h | ⟨_, h⟩
      · exact .inr (v4 _ h)
      · exact .inl (decide_eq_true (by have : c ≠ 0 := fun e => h (v5 e); omega))
    have m2 : b0 = false → false = true ∨ p ∈ S := fun hb => by
      rcases g5 kd1 with h | ⟨h, _⟩
      · exact .inr (v4 _ h)
      · rw [hb0, h] at hb
        simp at hb
    rw [← hb0] at q9
    have qz := PSpec.args q9 (args := [.agg (encPk p), .agg [.val (.int .i64 0), .val (.int .i64 0), .val (.slice none 0 0)]]) ⟨PSub.refl _, zeroPk_sub, trivial⟩
    refine .inl ⟨_, qz, ?_⟩
    repeat' ((try conv => whnf); first | refine k6 (fun hb => ?_) fun hb => ?_ | fail)
    · refine Wp.loop (fun k : Nat => ⟨[(0, .pure (encMs l)), (3, .loc 3 0 0), (4, .lsl 300 0 S.length), (5, .int c), (6, .int i), (7, .loc 7 0 0), (8, .loc 8 0 0), (10, .bool (metL (decide (0 < (c : Int))) (S.take k) p)), (11, .int k)], [(3, some (.box [.pure (encQ n.queue), .pure (encA n.apart)])), (7, some (.box [.pure (encQ x.queue), .pure (encA x.apart)])), (8, some (.box (pures (encPk p)))), (300, some (.row 3 (S.map encPk)))], [3, 7, 8, 300]⟩)
        (fun k => k ≤ S.length) (fun k => S.length - k) 0 (Le.of ?_ ?_ rfl rfl rfl) (by omega) ?_
      · rw [show metL (decide (0 < (c : Int))) (S.take 0) p = decide (0 < (c : Int)) by unfold metL; simp]
        (repeat' (first | exact trivial | refine And.intro ?_ ?_ | exact Or.inl rfl | fail))
      · (repeat' (first | exact trivial | exact rfl | refine And.intro ?_ ?_ | refine Exists.intro _ (And.intro rfl ?_) | exact Or.inl rfl | fail))
      intro k hk
      obtain ⟨M, hM⟩ : ∃ M, M = metL (decide (0 < (c : Int))) (S.take k) p := ⟨_, rfl⟩
      rw [← hM]
      by_cases hk2 : k < S.length
      · have hnx := metL_next (b := decide (0 < (c : Int))) (p := p) hk2
        rw [← hM] at hnx
        have q := samePk_spec (S[0 + (k : Int).toNat]'(by omega)) p
        rw [show decide ((S[0 + (k : Int).toNat]'(by omega)) = p) = decide (S[k] = p) by simp] at q
        refine code_sound (more := more7 false _ _) more7_ok FOK.wide _ ?_
        repeat' ((try conv => whnf); first | (first | refine k3 (fun hb => ?_) fun hb => ?_ | refine k4 (fun hb => ?_) fun hb => ?_) <;> (try rw [List.length_map] at hb) <;> (try (exfalso; omega; done)) | fail)
        refine Wp.draw (more := more7 true _ _) more7_det more7_ok FOK.wide rfl (by decide +kernel) (by conv => lhs; reduce) ?_
        repeat' ((try conv => whnf); first | refine k6 (fun hb => ?_) fun hb => ?_ | refine s4 nm ?_ | refine And.intro bd ?_ | refine .inl ⟨_, getMapN nm, rfl, rfl, ?_⟩ | fail)
        · refine ⟨k + 1, Le.of ?_ ?_ rfl rfl rfl, by omega, by omega⟩
          · rw [hnx]
            (repeat' (first | exact trivial | refine And.intro ?_ ?_ | exact Or.inl rfl | fail))
            all_goals (exact SubA.bool (by first | (rw [show M = true by assumption]; simp; done) | (rw [show M = false by assumption]; simp; done)))
          · (repeat' (first | exact trivial | exact rfl | refine And.intro ?_ ?_ | refine Exists.intro _ (And.intro rfl ?_) | exact Or.inl rfl | fail))
        · refine ⟨_, q, ?_⟩
          repeat' ((try conv => whnf); first | refine s4 nm ?_ | fail)
          refine ⟨k + 1, Le.of ?_ ?_ rfl rfl rfl, by omega, by omega⟩
          · rw [hnx]
            (repeat' (first | exact trivial | refine And.intro ?_ ?_ | exact Or.inl rfl | fail))
            all_goals (exact SubA.bool (by first | (rw [show M = true by assumption]; simp; done) | (rw [show M = false by assumption]; simp; done)))
          · (repeat' (first | exact trivial | exact rfl | refine And.intro ?_ ?_ | refine Exists.intro _ (And.intro rfl ?_) | exact Or.inl rfl | fail))
      · have hM1 : M = true := by
          rw [hM, List.take_of_length_le (by omega)]
          exact metL_true m1
        refine code_sound (more := more7 false _ _) more7_ok FOK.wide _ ?_
        repeat' ((try conv => whnf); first | (first | refine k3 (fun hb => ?_) fun hb => ?_ | refine k4 (fun hb => ?_) fun hb => ?_) <;> (try rw [List.length_map] at hb) <;> (try (exfalso; omega; done)) | refine k5 (fun hb => ?_) fun hb => ?_ | refine And.intro rfl ?_ | fail)
        · refine .inl ⟨_, qc, ?_⟩
          repeat' ((try conv => whnf); first | (first | refine k3 (fun hb => ?_) fun hb => ?_ | refine k4 (fun hb => ?_) fun hb => ?_) <;> (try rw [List.length_map] at hb) <;> (try (exfalso; omega; done)) | refine s4 nm ?_ | fail)
          refine ⟨⟨i + 1, x, S, c⟩, Le.of ?_ ?_ rfl rfl rfl, ⟨by simp only; omega, g1, by simp only; omega, fun q hq => v4 _ (hsubs q hq), fun h => g6 (by omega) (v5 h), by simp only; omega, by simp only; omega⟩, by simp only; omega⟩
          · (repeat' (first | exact trivial | refine And.intro ?_ ?_ | exact Or.inl rfl | fail))
          · (repeat' (first | exact trivial | exact rfl | refine And.intro ?_ ?_ | refine Exists.intro _ (And.intro rfl ?_) | exact Or.inl rfl | fail))
        · subst hM1; contradiction
    · refine Wp.loop (fun k : Nat => ⟨[(0, .pure (encMs l)), (3, .loc 3 0 0), (4, .lsl 300 0 S.length), (5, .int c), (6, .int i), (7, .loc 7 0 0), (8, .loc 8 0 0), (10, .bool (metL (false) (S.take k) p)), (11, .int k)], [(3, some (.box [.pure (encQ n.queue), .pure (encA n.apart)])), (7, some (.box [.pure (encQ x.queue), .pure (encA x.apart)])), (8, some (.box (pures (encPk p)))), (300, some (.row 3 (S.map encPk)))], [3, 7, 8, 300]⟩)
        (fun k => k ≤ S.length) (fun k => S.length - k) 0 (Le.of ?_ ?_ rfl rfl rfl) (by omega) ?_
      · rw [show metL (false) (S.take 0) p = false by unfold metL; simp]
        (repeat' (first | exact trivial | refine And.intro ?_ ?_ | exact Or.inl rfl | fail))
      · (repeat' (first | exact trivial | exact rfl | refine And.intro ?_ ?_ | refine Exists.intro _ (And.intro rfl ?_) | exact Or.inl rfl | fail))
      intro k hk
      obtain ⟨M, hM⟩ : ∃ M, M = metL (false) (S.take k) p := ⟨_, rfl⟩
      rw [← hM]
      by_cases hk2 : k < S.length
      · have hnx := metL_next (b := false) (p := p) hk2
        rw [← hM] at hnx
        have q := samePk_spec (S[0 + (k : Int).toNat]'(by omega)) p
        rw [show decide ((S[0 + (k : Int).toNat]'(by omega)) = p) = decide (S[k] = p) by simp] at q
        refine code_sound (more := more7 false _ _) more7_ok FOK.wide _ ?_
        repeat' ((try conv => whnf); first | (first | refine k3 (fun hb => ?_) fun hb => ?_ | refine k4 (fun hb => ?_) fun hb => ?_) <;> (try rw [List.length_map] at hb) <;> (try (exfalso; omega; done)) | fail)
        refine Wp.draw (more := more7 true _ _) more7_det more7_ok FOK.wide rfl (by decide +kernel) (by conv => lhs; reduce) ?_
        repeat' ((try conv => whnf); first | refine k6 (fun hb => ?_) fun hb => ?_ | refine s4 nm ?_ | refine And.intro bd ?_ | refine .inl ⟨_, getMapN nm, rfl, rfl, ?_⟩ | fail)
        · refine ⟨k + 1, Le.of ?_ ?_ rfl rfl rfl, by omega, by omega⟩
          · rw [hnx]
            (repeat' (first | exact trivial | refine And.intro ?_ ?_ | exact Or.inl rfl | fail))
            all_goals (exact SubA.bool (by first | (rw [show M = true by assumption]; simp; done) | (rw [show M = false by assumption]; simp; done)))
          · (repeat' (first | exact trivial | exact rfl | refine And.intro ?_ ?_ | refine Exists.intro _ (And.intro rfl ?_) | exact Or.inl rfl | fail))
        · refine ⟨_, q, ?_⟩
          repeat' ((try conv => whnf); first | refine s4 nm ?_ | fail)
          refine ⟨k + 1, Le.of ?_ ?_ rfl rfl rfl, by omega, by omega⟩
          · rw [hnx]
            (repeat' (first | exact trivial | refine And.intro ?_ ?_ | exact Or.inl rfl | fail))
            all_goals (exact SubA.bool (by first | (rw [show M = true by assumption]; simp; done) | (rw [show M = false by assumption]; simp; done)))
          · (repeat' (first | exact trivial | exact rfl | refine And.intro ?_ ?_ | refine Exists.intro _ (And.intro rfl ?_) | exact Or.inl rfl | fail))
      · have hM1 : M = true := by
          rw [hM, List.take_of_length_le (by omega)]
          exact metL_true (m2 (by assumption))
        refine code_sound (more := more7 false _ _) more7_ok FOK.wide _ ?_
        repeat' ((try conv => whnf); first | (first | refine k3 (fun hb => ?_) fun hb => ?_ | refine k4 (fun hb => ?_) fun hb => ?_) <;> (try rw [List.length_map] at hb) <;> (try (exfalso; omega; done)) | refine k5 (fun hb => ?_) fun hb => ?_ | refine And.intro rfl ?_ | fail)
        · refine .inl ⟨_, qc, ?_⟩
          repeat' ((try conv => whnf); first | (first | refine k3 (fun hb => ?_) fun hb => ?_ | refine k4 (fun hb => ?_) fun hb => ?_) <;> (try rw [List.length_map] at hb) <;> (try (exfalso; omega; done)) | refine s4 nm ?_ | fail)
          refine ⟨⟨i + 1, x, S, c⟩, Le.of ?_ ?_ rfl rfl rfl, ⟨by simp only; omega, g1, by simp only; omega, fun q hq => v4 _ (hsubs q hq), fun h => g6 (by omega) (v5 h), by simp only; omega, by simp only; omega⟩, by simp only; omega⟩
          · (repeat' (first | exact trivial | refine And.intro ?_ ?_ | exact Or.inl rfl | fail))
          · (repeat' (first | exact trivial | exact rfl | refine And.intro ?_ ?_ | refine Exists.intro _ (And.intro rfl ?_) | exact Or.inl rfl | fail))
        · subst hM1; contradiction
  have hsubs := g4 kd0
  by_cases kd4 : l[i].k = 4
  · refine code_sound (more := more7 false _ _) more7_ok FOK.wide _ ?_
    repeat' ((try conv => whnf); first | (first | refine k3 (fun hb => ?_) fun hb => ?_ | refine k4 (fun hb => ?_) fun hb => ?_) <;> (try rw [List.length_map] at hb) <;> (try (exfalso; omega; done)) | fail)
    refine Wp.draw (more := more7 true _ _) more7_det more7_ok FOK.wide rfl (by decide +kernel) (by conv => lhs; reduce) ?_
    repeat' ((try conv => whnf); first | refine s5 nm nm ?_ | fail)
    refine ⟨_, qh, ?_⟩
    repeat' ((try conv => whnf); first | (first | refine k3 (fun hb => ?_) fun hb => ?_ | refine k4 (fun hb => ?_) fun hb => ?_) <;> (try rw [List.length_map] at hb) <;> (try (exfalso; omega; done)) | refine And.intro rfl ?_ | refine s5 nm nm ?_ | refine And.intro bd ?_ | fail)
    refine ⟨((l[i].k : Nat) : Int), mod6 rfl, ?_⟩
    repeat' ((try conv => whnf); first | (first | refine k3 (fun hb => ?_) fun hb => ?_ | refine k4 (fun hb => ?_) fun hb => ?_) <;> (try rw [List.length_map] at hb) <;> (try (exfalso; omega; done)) | refine And.intro rfl ?_ | refine s4 nm ?_ | fail)
    refine .inl ⟨_, qc, ?_⟩
    repeat' ((try conv => whnf); first | (first | refine k3 (fun hb => ?_) fun hb => ?_ | refine k4 (fun hb => ?_) fun hb => ?_) <;> (try rw [List.length_map] at hb) <;> (try (exfalso; omega; done)) | refine s4 nm ?_ | fail)
    refine ⟨⟨i + 1, x, S, c + 1⟩, Le.of ?_ ?_ rfl rfl rfl, ⟨by simp only; omega, g1, by simp only; omega, fun q hq => v4 _ (hsubs q hq), fun h => absurd h (by simp), by simp only; omega, by simp only; omega⟩, by simp only; omega⟩
    · (repeat' (first | exact trivial | refine And.intro ?_ ?_ | exact Or.inl rfl | fail))
    · (repeat' (first | exact trivial | exact rfl | refine And.intro ?_ ?_ | refine Exists.intro _ (And.intro rfl ?_) | exact Or.inl rfl | fail))
    all_goals (exfalso; omega)
  · refine code_sound (more := more7 false _ _) more7_ok FOK.wide _ ?_
    repeat' ((try conv => whnf); first | (first | refine k3 (fun hb => ?_) fun hb => ?_ | refine k4 (fun hb => ?_) fun hb => ?_) <;> (try rw [List.length_map] at hb) <;> (try (exfalso; omega; done)) | fail)
    refine Wp.draw (more := more7 true _ _) more7_det more7_ok FOK.wide rfl (by decide +kernel) (by conv => lhs; reduce) ?_
    repeat' ((try conv => whnf); first | refine s5 nm nm ?_ | fail)
    refine ⟨_, qh, ?_⟩
    repeat' ((try conv => whnf); first | (first | refine k3 (fun hb => ?_) fun hb => ?_ | refine k4 (fun hb => ?_) fun hb => ?_) <;> (try rw [List.length_map] at hb) <;> (try (exfalso; omega; done)) | refine And.intro rfl ?_ | refine s5 nm nm ?_ | refine And.intro bd ?_ | fail)
    refine ⟨((l[i].k : Nat) : Int), mod6 rfl, ?_⟩
    repeat' ((try conv => whnf); first | (first | refine k3 (fun hb => ?_) fun hb => ?_ | refine k4 (fun hb => ?_) fun hb => ?_) <;> (try rw [List.length_map] at hb) <;> (try (exfalso; omega; done)) | refine And.intro rfl ?_ | fail)
    refine .inl ⟨_, qc, ?_⟩
    repeat' ((try conv => whnf); first | (first | refine k3 (fun hb => ?_) fun hb => ?_ | refine k4 (fun hb => ?_) fun hb => ?_) <;> (try rw [List.length_map] at hb) <;> (try (exfalso; omega; done)) | refine s4 nm ?_ | fail)
    refine ⟨⟨i + 1, x, S, c⟩, Le.of ?_ ?_ rfl rfl rfl, ⟨by simp only; omega, g1, by simp only; omega, fun q hq => v4 _ (hsubs q hq), fun h => g6 kd4 (v5 h), by simp only; omega, by simp only; omega⟩, by simp only; omega⟩
    · (repeat' (first | exact trivial | refine And.intro ?_ ?_ | exact Or.inl rfl | fail))
    · (repeat' (first | exact trivial | exact rfl | refine And.intro ?_ ?_ | refine Exists.intro _ (And.intro rfl ?_) | exact Or.inl rfl | fail))
    all_goals (exfalso; omega)
end Go.Proofs.Ytlploeedieenbaa
