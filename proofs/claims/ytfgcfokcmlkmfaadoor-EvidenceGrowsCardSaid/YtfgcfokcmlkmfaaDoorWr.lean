/- Evidence: one head, one list; the law EvidenceOne. Conditions: none. -/
import Derived.Test.YtfgcfokcmlkmfaaDoorWd
import Derived.Test.YtfgcfokcmlkmfaaDoorWp
set_option linter.unusedSimpArgs false
set_option linter.unusedVariables false
namespace Go.Proofs.YtfgcfokcmlkmfaaDoor
open Go.Avc
theorem recE_inj {a b : Rec} (ha : a.can) (hb : b.can) (h : recE a = recE b) : a = b := by
  have h1 := recE_len ha.1 (by have := ha.2; omega)
  have h2 := recE_len hb.1 (by have := hb.2; omega)
  have ha2 := ha.2
  have hb2 := hb.2
  have e1 := decode_enc (recV_check a) (by show (recE a).length ≤ _; omega) (recV_fits ha.1 (by omega))
  have e2 := decode_enc (recV_check b) (by show (recE b).length ≤ _; omega) (recV_fits hb.1 (by omega))
  rw [show (recV a).enc = recE a from rfl, h, show recE b = (recV b).enc from rfl, e2] at e1
  have e3 := congrArg Prod.fst e1
  obtain ⟨_, h6⟩ := recV_inj (v := recV b) (r := b) (by rw [recV, lstV_kids]; rfl) rfl hb.1
  obtain ⟨_, h7⟩ := recV_inj (v := recV b) (r := a) (by rw [recV, lstV_kids]; rfl) e3 ha.1
  rw [h6, h7]
theorem errV_zero {l : List Rec} (h : errV (validB l) = 0) : Valid l := by
  by_cases hv : Valid l
  · exact hv
  · rw [validB_false hv] at h; exact absurd h (by decide)
theorem valid_prev {l : List Rec} (hv : Valid l) {k : Nat} (h : k + 1 < l.length) : (l[k + 1]).prev = recD l[k] := by
  have := (hv (k + 1) h).prev
  rw [this, ← headAt (l := l.take (k + 1)) (n := k) (by rw [List.length_take]; omega) (by rw [List.length_take]; omega), List.getElem_take]
theorem coll_or {a b : Rec} (ha : a.can) (hb : b.can) (hd : recD a = recD b) (hc : collB a b = false) : a = b := by
  by_cases h : recE a = recE b
  · exact recE_inj ha hb h
  · rw [collB_true h hd] at hc; cases hc
/-- From the end to the beginning: the same digests, the same records. -/
theorem one_down {a b : List Rec} (hva : Valid a) (hvb : Valid b) (ha : ∀ r ∈ a, r.can) (hb : ∀ r ∈ b, r.can) (hl : a.length = b.length) (hc : ∀ j (h : j < a.length) (h' : j < b.length), collB a[j] b[j] = false) :
    ∀ n k (h : k < a.length) (h' : k < b.length), k + n + 1 = a.length → headOf a = headOf b → a[k] = b[k]
  | 0, k, h, h', e, hd => by
    refine coll_or (ha _ (List.getElem_mem h)) (hb _ (List.getElem_mem h')) ?_ (hc k h h')
    rw [headAt h (by omega), headAt h' (by omega), hd]
  | n + 1, k, h, h', e, hd => by
    have ih := one_down hva hvb ha hb hl hc n (k + 1) (by omega) (by omega) (by omega) hd
    refine coll_or (ha _ (List.getElem_mem h)) (hb _ (List.getElem_mem h')) ?_ (hc k h h')
    rw [← valid_prev hva (by omega), ← valid_prev hvb (by omega), ih]
theorem one_head {a b : List Rec} (hva : Valid a) (hvb : Valid b) (ha : ∀ r ∈ a, r.can) (hb : ∀ r ∈ b, r.can) (hl : a.length = b.length) (hd : headOf a = headOf b) (hc : ∀ j (h : j < a.length) (h' : j < b.length), collB a[j] b[j] = false) : a = b := by
  apply List.ext_getElem hl
  intro i h h'
  exact one_down hva hvb ha hb hl hc (a.length - i - 1) i h h' (by omega) hd
theorem sameL2_false {a b : List Rec} (h : sameL2 a b = false) : a ≠ b := fun e => by subst e; rw [sameL2_refl] at h; cases h
set_option maxRecDepth 20000
set_option maxHeartbeats 4000000
set_option linter.unusedSimpArgs false
attribute [local irreducible] PSub Wp PSpec Le Need Both
attribute [local irreducible] recE recD tagged sha headOf addR
theorem one_spec (a b : List Rec) (ha : ∀ r ∈ a, r.ok) (hb0 : ∀ r ∈ b, r.ok) : PSpec Tryd.prog 6 [encRs a, encRs b] (.bool true) := by
  have qa := rvFew_spec a
  have qb := rvFew_spec b
  have ca := few_can ha
  have cb := few_can hb0
  obtain ⟨f, hf⟩ : ∃ f, f = fewR a := ⟨_, rfl⟩
  obtain ⟨g, hg⟩ : ∃ f, f = fewR b := ⟨_, rfl⟩
  rw [← hf] at qa ca
  rw [← hg] at qb cb
  have q1 := fun h => evCheck_spec a (ca h).1 (by have := (ca h).2.1; omega)
  have q2 := fun h => evCheck_spec b (cb h).1 (by have := (cb h).2.1; omega)
  have q3 := fun h => evHead_spec a (ca h).1
  have q4 := fun h => evHead_spec b (cb h).1
  have q5 := rvSameL_spec a b (fun r hr => (ha r hr).2.2.2.2) (fun r hr => (hb0 r hr).2.2.2.2)
  obtain ⟨x, hx⟩ : ∃ x, x = errV (validB a) := ⟨_, rfl⟩
  obtain ⟨y', hy'⟩ : ∃ x, x = errV (validB b) := ⟨_, rfl⟩
  obtain ⟨s, hs⟩ : ∃ s, s = sameL2 a b := ⟨_, rfl⟩
  rw [← hx] at q1
  rw [← hy'] at q2
  rw [← hs] at q5
  have dh := digEq (headOf a) (headOf b) (headOf_len a) (headOf_len b)
  obtain ⟨c, hc⟩ : ∃ c, c = decide (headOf a = headOf b) := ⟨_, rfl⟩
  rw [← hc] at dh
  refine PSpec.of_vc (fun Γ => more6 false Γ.P Γ.fx) (fun Γ => more6_ok) Tryd.func6 rfl Tryd.call6 (by simp) ?_
  rintro ⟨P, N, w0, X, β0, fx, y, hy, pk, df⟩ rfl rfl rfl hoff rfl; change y.on = false at hoff
  skip
  refine .inl ⟨_, sane_spec, ?_⟩
  skip
  refine .inl ⟨_, qa, ?_⟩
  repeat' ((try conv => whnf); first | refine k5 (fun hb => ?_) fun hb => ?_ | fail)
  any_goals exact PSub.val_bool rfl
  refine .inl ⟨_, qb, ?_⟩
  repeat' ((try conv => whnf); first | (first | refine k3 (fun hb => ?_) fun hb => ?_ | refine k4 (fun hb => ?_) fun hb => ?_) <;> (try rw [List.length_map] at hb) <;> (try (exfalso; omega; done)) | refine k5 (fun hb => ?_) fun hb => ?_ | fail)
  any_goals exact PSub.val_bool rfl
  refine .inl ⟨_, q1 (by assumption), ?_⟩
  repeat' ((try conv => whnf); first | (first | refine k3 (fun hb => ?_) fun hb => ?_ | refine k4 (fun hb => ?_) fun hb => ?_) <;> (try rw [List.length_map] at hb) <;> (try (exfalso; omega; done)) | fail)
  any_goals exact PSub.val_bool rfl
  refine .inl ⟨_, q2 (by assumption), ?_⟩
  repeat' ((try conv => whnf); first | (first | refine k3 (fun hb => ?_) fun hb => ?_ | refine k4 (fun hb => ?_) fun hb => ?_) <;> (try rw [List.length_map] at hb) <;> (try (exfalso; omega; done)) | fail)
  any_goals exact PSub.val_bool rfl
  refine .inl ⟨_, q3 (by assumption), ?_⟩
  repeat' ((try conv => whnf); first | refine And.intro rfl ?_ | fail)
  refine .inl ⟨_, q4 (by assumption), ?_⟩
  repeat' ((try conv => whnf); first | refine And.intro rfl ?_ | fail)
  refine ⟨_, dh, isAp, isAp, ?_⟩
  repeat' ((try conv => whnf); first | refine k5 (fun hb => ?_) fun hb => ?_ | fail)
  any_goals exact PSub.val_bool rfl
  refine .inl ⟨_, q5, ?_⟩
  repeat' ((try conv => whnf); first | refine k6 (fun hb => ?_) fun hb => ?_ | fail)
  any_goals exact PSub.val_bool rfl
  have hab : a.length = b.length := by rw [List.length_map] at *; omega
  have va := errV_zero (l := a) (by rw [← hx]; assumption)
  have vb := errV_zero (l := b) (by rw [← hy']; assumption)
  have hhd : headOf a = headOf b := of_decide_eq_true (by rw [← hc]; assumption)
  have hne : a ≠ b := sameL2_false (by rw [← hs]; assumption)
  have cca := (ca (by assumption)).1
  have ccb := (cb (by assumption)).1
  have h30 := (ca (by assumption)).2.1
  refine Wp.loop (fun k : Nat => ⟨[(0, .pure (encRs a)), (1, .pure (encRs b)), (44, .int a.length), (45, .int k)], [], []⟩) (fun k => k ≤ a.length ∧ ∀ j (h : j < a.length) (h' : j < b.length), j < k → collB a[j] b[j] = false) (fun k => a.length - k) 0 (Le.of ?_ ?_ rfl rfl rfl) ⟨by omega, by intro j h h' hj; omega⟩ ?_
  · (repeat' (first | exact trivial | refine And.intro ?_ ?_ | exact Or.inl rfl | exact l1 bd | fail))
  · (repeat' (first | exact trivial | fail))
  rintro k ⟨hk, hall⟩
  by_cases hk2 : k < a.length
  · have hk3 : k < b.length := by omega
    have p1 := collide_spec a[k] b[k] (cca _ (List.getElem_mem hk2)) (ccb _ (List.getElem_mem hk3))
    obtain ⟨w, hw⟩ : ∃ w, w = collB a[k] b[k] := ⟨_, rfl⟩
    rw [← hw] at p1
    refine code_sound (more := more6 false _ _) more6_ok FOK.wide _ ?_
    repeat' ((try conv => whnf); first | (first | refine k3 (fun hb => ?_) fun hb => ?_ | refine k4 (fun hb => ?_) fun hb => ?_) <;> (try rw [List.length_map] at hb) <;> (try (exfalso; omega; done)) | fail)
    refine Wp.draw (more := more6 true _ _) more6_det more6_ok FOK.wide rfl (by decide +kernel) (by conv => lhs; reduce) ?_
    repeat' ((try conv => whnf); first | refine s5 nm nm ?_ | fail)
    refine ⟨_, p1, ?_⟩
    repeat' ((try conv => whnf); first | refine k6 (fun hb => ?_) fun hb => ?_ | refine s4 nm ?_ | fail)
    · exact PSub.val_bool rfl
    · refine ⟨k + 1, Le.of (by (repeat' (first | exact trivial | refine And.intro ?_ ?_ | exact Or.inl rfl | fail))) (by (repeat' (first | exact trivial | fail))) rfl rfl rfl, ⟨by omega, fun j h h' hj => ?_⟩, by omega⟩
      by_cases e : j = k
      · subst e; rw [← hw]; assumption
      · exact hall j h h' (by omega)
  · refine code_sound (more := more6 false _ _) more6_ok FOK.wide _ ?_
    repeat' ((try conv => whnf); first | (first | refine k3 (fun hb => ?_) fun hb => ?_ | refine k4 (fun hb => ?_) fun hb => ?_) <;> (try rw [List.length_map] at hb) <;> (try (exfalso; omega; done)) | fail)
    exact absurd (one_head va vb cca ccb hab hhd fun j h h' => hall j h h' (by omega)) hne
end Go.Proofs.YtfgcfokcmlkmfaaDoor
/- Evidence: a changed record is found; the law EvidenceChanged. Conditions: none. -/
namespace Go.Proofs.YtfgcfokcmlkmfaaDoor
open Go.Avc
theorem set_take {l : List Rec} {k j : Nat} {r : Rec} (h : j ≤ k) : (l.set k r).take j = l.take j := by
  rw [List.take_set]
  exact List.set_eq_of_length_le (by rw [List.length_take]; omega)
theorem coll_not {a b : Rec} (ha : a.can) (hb : b.can) (hne : a ≠ b) (hd : recD a = recD b) : collB a b = true := collB_true (fun h => hne (recE_inj ha hb h)) hd
/-- What Broken says of evidence in which a record was changed. -/
theorem changed_law {l : List Rec} {k : Nat} {r : Rec} (hv : Valid l) (hl : ∀ x ∈ l, x.can) (hr : r.can) (hk : k < l.length) (hne : l[k] ≠ r) {n : Int} {ok : Bool} (hB : BrokenIs (l.set k r) (headOf l) n ok) :
    (ok = true ∧ (n = k ∨ (n = k + 1 ∧ n < l.length))) ∨ collB l[k] r = true := by
  have hset : ∀ x ∈ l.set k r, x.can := fun x hx => by
    rcases List.mem_or_eq_of_mem_set hx with h | rfl
    · exact hl x h
    · exact hr
  have hlen : (l.set k r).length = l.length := List.length_set ..
  have hck := hl _ (List.getElem_mem hk)
  cases hB with
  | ok hv2 hh =>
    right
    by_cases hc : collB l[k] r = true
    · exact hc
    · have := one_head hv hv2 hl hset hlen.symm hh.symm fun j h h' => by
        by_cases e : j = k
        · subst e; rw [List.getElem_set_self]; simpa using hc
        · rw [List.getElem_set_ne (by omega)]; exact collB_same rfl
      have e := congrArg (fun x => x[k]?) this
      simp only [List.getElem?_eq_getElem hk, List.getElem?_set_self hk] at e
      exact absurd (Option.some.inj e) hne
  | head hv2 hh =>
    left
    refine ⟨rfl, .inl ?_⟩
    by_cases e : k = l.length - 1
    · rw [hlen]; omega
    · refine absurd ?_ hh
      rw [← headAt (l := l.set k r) (n := l.length - 1) (by rw [hlen]; omega) (by rw [hlen]), ← headAt (l := l) (n := l.length - 1) (by omega) rfl, List.getElem_set_ne (by omega)]
  | bad m hm =>
    have hm1 := hm.lt
    rw [hlen] at hm1
    by_cases h1 : m < k
    · refine absurd ?_ hm.bad
      rw [set_take (by omega), List.getElem_set_ne (by omega)]
      exact hv m hm1
    · by_cases h2 : m ≤ k + 1
      · left
        refine ⟨rfl, ?_⟩
        by_cases e : m = k
        · left; rw [e]
        · right; exact ⟨by omega, by omega⟩
      · right
        refine coll_not hck hr hne ?_
        have hf := (hm.before (k + 1) (by rw [hlen]; omega) (by omega)).prev
        rw [List.getElem_set_ne (by omega), valid_prev hv (by omega), ← headAt (l := (l.set k r).take (k + 1)) (n := k) (by rw [List.length_take, hlen]; omega) (by rw [List.length_take, hlen]; omega), List.getElem_take, List.getElem_set_self] at hf
        exact hf
theorem set_rows (l : List Rec) (k : Nat) (r : Rec) (hk : k < l.length) : (l.set k r).map encR = (l.map encR).take k ++ [encR r] ++ (l.map encR).drop (k + 1) := by
  rw [List.set_eq_take_append_cons_drop, if_pos hk]
  simp
theorem cut_rows {l : List Rec} {k N : Nat} {r : Rec} (hk : k < l.length) (hN : N = l.length := by simp [cut]; omega) : List.take N (List.drop 0 ([] ++ cut (l.map encR) 0 (k : Int).toNat ++ List.take 1 (List.drop 0 [encR r]) ++ cut (l.map encR) ((k : Int) + 1).toNat (l.map encR).length)) = (l.set k r).map encR := by
  rw [set_rows l k r hk, List.drop_zero, List.nil_append, List.take_of_length_le (by simp [cut]; omega)]
  simp only [cut, List.drop_zero, Int.toNat_natCast, show ((k : Int) + 1).toNat = k + 1 by omega, Nat.sub_zero]
  rw [List.take_of_length_le (l := List.drop (k + 1) _) (by simp)]
  rfl
set_option maxRecDepth 20000
set_option maxHeartbeats 4000000
set_option linter.unusedSimpArgs false
attribute [local irreducible] PSub Wp PSpec Le Need Both
attribute [local irreducible] recE recD tagged sha headOf addR
theorem broken_rows {l : List Rec} (rows : List (List PV)) (hl : ∀ x ∈ l, x.can) (hlen : l.length ≤ 1000000) {a : Int} {b : Bool} {l0 : List Rec} (hB : BrokenIs l (headOf l0) a b) (hr : rows = l.map encR) : PSpec Tryd.prog 26 [.sl 37 rows, .agg (dcells (headOf l0))] (encIB a b) := by
  subst hr
  exact evBroken_spec l _ hl hlen (headOf_len l0) a b hB
theorem changed_spec (l : List Rec) (at_ : UInt8) (r : Rec) (hl : ∀ r ∈ l, r.ok) (hr : r.ok) (hb1 : r.body.length ≤ 140737488355328) : PSpec Tryd.prog 7 [encRs l, .val (.int .u8 (at_.toNat : Int)), .agg (encR r)] (.bool true) := by
  have qf := rvFew_spec l
  have ca := few_can hl
  obtain ⟨f, hf⟩ : ∃ f, f = fewR l := ⟨_, rfl⟩
  rw [← hf] at qf ca
  have q1 := fun h => evCheck_spec l (ca h).1 (by have := (ca h).2.1; omega)
  have q3 := fun h => evHead_spec l (ca h).1
  obtain ⟨x, hx⟩ : ∃ x, x = errV (validB l) := ⟨_, rfl⟩
  rw [← hx] at q1
  obtain ⟨n, hn⟩ : ∃ n : Nat, n = at_.toNat := ⟨_, rfl⟩
  have hn2 : n < 256 := by rw [hn]; exact UInt8.toNat_lt at_
  rw [← hn]
  refine PSpec.of_vc (fun Γ => more6 false Γ.P Γ.fx) (fun Γ => more6_ok) Tryd.func7 rfl Tryd.call7 (by simp) ?_
  rintro ⟨P, N, w0, X, β0, fx, y, hy, pk, df⟩ rfl rfl rfl hoff rfl; change y.on = false at hoff
  skip
  refine .inl ⟨_, sane_spec, ?_⟩
  skip
  refine .inl ⟨_, qf, ?_⟩
  repeat' ((try conv => whnf); first | (first | refine k3 (fun hb => ?_) fun hb => ?_ | refine k4 (fun hb => ?_) fun hb => ?_) <;> (try rw [List.length_map] at hb) <;> (try (exfalso; omega; done)) | refine k5 (fun hb => ?_) fun hb => ?_ | fail)
  any_goals exact PSub.val_bool rfl
  refine .inl ⟨_, q1 (by assumption), ?_⟩
  repeat' ((try conv => whnf); first | (first | refine k3 (fun hb => ?_) fun hb => ?_ | refine k4 (fun hb => ?_) fun hb => ?_) <;> (try rw [List.length_map] at hb) <;> (try (exfalso; omega; done)) | refine s4 nm ?_ | refine And.intro bd ?_ | fail)
  any_goals exact PSub.val_bool rfl
  have h30 := (ca (by assumption)).2.1
  have hl0 : 0 < l.length := by omega
  have hk : n % l.length < l.length := Nat.mod_lt _ hl0
  obtain ⟨k, hkd⟩ : ∃ k, k = n % l.length := ⟨_, rfl⟩
  rw [← hkd] at hk
  refine ⟨(k : Int), by rw [List.length_map, Int.tmod_eq_emod_of_nonneg (by omega), hkd]; omega, ?_⟩
  skip
  refine Wp.draw (more := more6 true _ _) more6_det more6_ok FOK.wide rfl (by decide +kernel) (by conv => lhs; reduce) ?_
  repeat' ((try conv => whnf); first | refine s5 nm nm ?_ | fail)
  have cca := (ca (by assumption)).1
  have hrc : r.can := ⟨hr, by omega⟩
  have p1 := rvSame_spec l[k] r (hl _ (List.getElem_mem hk)).2.2.2.2 hr.2.2.2.2
  obtain ⟨s, hs⟩ : ∃ s, s = sameB l[k] r := ⟨_, rfl⟩
  rw [← hs] at p1
  refine ⟨_, p1, ?_⟩
  repeat' ((try conv => whnf); first | refine k6 (fun hb => ?_) fun hb => ?_ | fail)
  any_goals exact PSub.val_bool rfl
  refine Wp.draw (more := more6 true _ _) more6_det more6_ok FOK.wide rfl (by decide +kernel) (by conv => lhs; reduce) ?_
  repeat' ((try conv => whnf); first | refine And.intro rfl ?_ | refine s4 nm ?_ | refine And.intro bd ?_ | fail)
  have hne : l[k] ≠ r := fun e => by rw [sameB_true e] at hs; simp_all
  have hlen : (l.set k r).length = l.length := List.length_set ..
  have hset : ∀ x ∈ l.set k r, x.can := fun x hx => by
    rcases List.mem_or_eq_of_mem_set hx with h | rfl
    · exact cca x h
    · exact hrc
  obtain ⟨a, ok, hB⟩ := BrokenIs.ex (l.set k r) (headOf l)
  have hlaw := changed_law (errV_zero (by rw [← hx]; assumption)) cca hrc hk hne hB
  have p2 := collide_spec l[k] r (cca _ (List.getElem_mem hk)) hrc
  obtain ⟨w, hw⟩ : ∃ w, w = collB l[k] r := ⟨_, rfl⟩
  rw [← hw] at p2 hlaw
  refine .inl ⟨_, q3 (by assumption), ?_⟩
  repeat' ((try conv => whnf); first | refine And.intro rfl ?_ | fail)
  refine .inl ⟨_, broken_rows _ hset (by rw [hlen]; omega) hB (cut_rows hk), ?_⟩
  repeat' ((try conv => whnf); first | refine k5 (fun hb => ?_) fun hb => ?_ | fail)
  · refine Wp.draw (more := more6 true _ _) more6_det more6_ok FOK.wide rfl (by decide +kernel) (by conv => lhs; reduce) ?_
    repeat' ((try conv => whnf); first | (first | refine k3 (fun hb => ?_) fun hb => ?_ | refine k4 (fun hb => ?_) fun hb => ?_) <;> (try rw [List.length_map] at hb) <;> (try (exfalso; omega; done)) | refine s4 nm ?_ | refine s5 nm nm ?_ | fail)
    · exact PSub.val_bool rfl
    · exact PSub.val_bool rfl
    · refine ⟨_, p2, ?_⟩
      skip
      refine PSub.val_bool ?_
      rcases hlaw with ⟨_, h⟩ | h
      · exfalso; omega
      · exact h
    · refine ⟨_, p2, ?_⟩
      skip
      refine PSub.val_bool ?_
      rcases hlaw with ⟨_, h⟩ | h
      · exfalso; omega
      · exact h
  · refine Wp.draw (more := more6 true _ _) more6_det more6_ok FOK.wide rfl (by decide +kernel) (by conv => lhs; reduce) ?_
    repeat' ((try conv => whnf); first | refine s5 nm nm ?_ | fail)
    refine ⟨_, p2, ?_⟩
    skip
    refine PSub.val_bool ?_
    rcases hlaw with ⟨h, _⟩ | h
    · exact absurd h (by simp_all)
    · exact h
end Go.Proofs.YtfgcfokcmlkmfaaDoor
