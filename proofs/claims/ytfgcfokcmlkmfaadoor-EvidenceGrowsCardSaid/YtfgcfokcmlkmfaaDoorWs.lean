/- Evidence: the law EvidenceGrows. Conditions: none. -/
import Derived.Test.YtfgcfokcmlkmfaaDoorWd
import Derived.Test.YtfgcfokcmlkmfaaDoorWr
set_option linter.unusedSimpArgs false
set_option linter.unusedVariables false
namespace Go.Proofs.YtfgcfokcmlkmfaaDoor
open Go.Avc
theorem valid_take {l : List Rec} (hv : Valid l) (k : Nat) : Valid (l.take k) := fun j h => by
  rw [List.length_take] at h
  have := hv j (by omega)
  rw [List.take_take, Nat.min_eq_left (by omega), List.getElem_take]
  exact this
theorem valid_snoc {l : List Rec} {r : Rec} (hv : Valid l) (hf : Fits l r) : Valid (l ++ [r]) := fun j h => by
  by_cases hj : j < l.length
  · rw [List.take_append_of_le_length (by omega), List.getElem_append_left hj]
    exact hv j hj
  · have e : j = l.length := by rw [List.length_append] at h; simp at h; omega
    subst e
    rw [List.take_append_of_le_length (Nat.le_refl _), List.take_length, List.getElem_append_right (Nat.le_refl _)]
    simpa using hf
def partyOf (l : List Rec) : Int := if 0 < l.length then firstP l else 7
theorem partyOf_in {l : List Rec} (hv : Valid l) : 0 ≤ partyOf l ∧ partyOf l < 16 := by
  unfold partyOf
  split
  · rename_i h
    have := (hv 0 h).party
    rw [← firstP_at h]
    exact this
  · decide
theorem grows_fits {l : List Rec} {kind day : Int} {body : List UInt8} (hv : Valid l) (hn : l.length ≤ 30) (hb : body.length ≤ 3000) : Fits l (mkR l (partyOf l) kind day body) ↔ (1 ≤ kind ∧ kind ≤ 9) ∧ (0 ≤ day ∧ day < 1024) ∧ (l.length = 0 ∨ lastDay l ≤ day) := by
  rw [mkR_fits hv (by omega)]
  have hp := partyOf_in hv
  constructor
  · rintro ⟨_, h2, h3, _, h5⟩; exact ⟨h2, h3, by omega⟩
  · rintro ⟨h2, h3, h5⟩
    refine ⟨hp, h2, h3, by omega, ?_⟩
    by_cases h : l.length = 0
    · exact .inl h
    · exact .inr ⟨by unfold partyOf; rw [if_pos (by omega)], by omega⟩
theorem cut_len {X l : List Rec} {r : Rec} (h : X = l ++ [r]) : cut (X.map encR) 0 ((((l.map encR).length : Nat) : Int)).toNat = l.map encR := by
  subst h
  simp [cut]
theorem mkR_can {l : List Rec} {p kind day : Int} {body : List UInt8} (hl : ∀ x ∈ l, x.can) (hn : l.length ≤ 30) (hp : isI p) (hk : isI kind) (hd : isI day) (hb : body.length ≤ 800000) : (mkR l p kind day body).can :=
  ⟨⟨isI_of (by constructor <;> (show _ ≤ _; simp only [mkR]; omega)), hp, hk, hd, headOf_len l⟩, hb⟩
theorem rvSameL_rows (l : List Rec) (hl : ∀ r ∈ l, r.prev.length = 32) (rows : List (List PV)) (hr : rows = l.map encR) : PSpec Tryd.prog 14 [.sl 37 rows, encRs l] (.bool (sameL2 l l)) := by
  subst hr
  exact rvSameL_spec l l hl hl
theorem take_valid {l : List Rec} (hl : ∀ x ∈ l, x.can) (hv : Valid l) (hn : l.length ≤ 1000000) (k : Nat) (rows : List (List PV)) (hr : rows = (l.take k).map encR) : PSpec Tryd.prog 15 [.sl 37 rows] (.int (errV true)) := by
  subst hr
  have := evCheck_spec (l.take k) (fun x hx => hl x (List.mem_of_mem_take hx)) (by rw [List.length_take]; omega)
  rwa [validB_true (valid_take hv k)] at this
set_option maxRecDepth 20000
set_option maxHeartbeats 4000000
set_option linter.unusedSimpArgs false
attribute [local irreducible] PSub Wp PSpec Le Need Both
attribute [local irreducible] recE recD tagged sha headOf addR
theorem grows_spec (l : List Rec) (kind day : Int) (body : List UInt8) (hl : ∀ r ∈ l, r.ok) (hk : isI kind) (hd : isI day) (hb0 : body.length ≤ 140737488355328) : PSpec Tryd.prog 8 [encRs l, .int kind, .int day, encB body] (.bool true) := by
  have qf := rvFew_spec l
  have ca := few_can hl
  obtain ⟨f, hf⟩ : ∃ f, f = fewR l := ⟨_, rfl⟩
  rw [← hf] at qf ca
  have q1 := fun h => evCheck_spec l (ca h).1 (by have := (ca h).2.1; omega)
  have q3 := fun h => evHead_spec l (ca h).1
  obtain ⟨x, hx⟩ : ∃ x, x = errV (validB l) := ⟨_, rfl⟩
  rw [← hx] at q1
  obtain ⟨p, hp⟩ : ∃ p, p = partyOf l := ⟨_, rfl⟩
  have q2 := fun h => evAdd_spec l p kind day body (ca h).1 (by have := (ca h).2.1; omega)
  have e1 := firstP_at (l := l)
  refine PSpec.of_vc (fun Γ => more6 false Γ.P Γ.fx) (fun Γ => more6_ok) Tryd.func8 rfl Tryd.call8 (by simp) ?_
  rintro ⟨P, N, w0, X, β0, fx, y, hy, pk, df⟩ rfl rfl rfl hoff rfl; change y.on = false at hoff
  skip
  refine .inl ⟨_, sane_spec, ?_⟩
  skip
  refine .inl ⟨_, qf, ?_⟩
  repeat' ((try conv => whnf); first | (first | refine k3 (fun hb => ?_) fun hb => ?_ | refine k4 (fun hb => ?_) fun hb => ?_) <;> (try rw [List.length_map] at hb) <;> (try (exfalso; omega; done)) | refine k5 (fun hb => ?_) fun hb => ?_ | fail)
  any_goals exact PSub.val_bool rfl
  refine .inl ⟨_, q1 (by assumption), ?_⟩
  repeat' ((try conv => whnf); first | (first | refine k3 (fun hb => ?_) fun hb => ?_ | refine k4 (fun hb => ?_) fun hb => ?_) <;> (try rw [List.length_map] at hb) <;> (try (exfalso; omega; done)) | refine s5 nm nm ?_ | fail)
  any_goals exact PSub.val_bool rfl
  · have hpp : p = (l[0]'(by omega)).party := by
      rw [hp]
      unfold partyOf
      first
      | (rw [if_pos (by omega)]; exact (e1 (by omega)).symm)
      | (rw [if_neg (by omega)])
    have hcan := (ca (by assumption)).1
    have h30 := (ca (by assumption)).2.1
    have hv : Valid l := errV_zero (by rw [← hx]; assumption)
    have q2' := q2 (by assumption) (by omega)
    have hgf := grows_fits (kind := kind) (day := day) (body := body) hv h30 (by omega)
    rw [← hp] at hgf
    obtain ⟨X, e, hX⟩ : ∃ X e, addR l (mkR l p kind day body) = (X, e) := ⟨_, _, rfl⟩
    obtain ⟨R, hR⟩ : ∃ R, R = mkR l p kind day body := ⟨_, rfl⟩
    have hcase : (e = 0 ∧ Fits l R ∧ X = l ++ [R]) ∨ (e = 500 ∧ ¬ Fits l R ∧ X = []) := by
      by_cases h : Fits l (mkR l p kind day body)
      · rw [addR_yes hv (by omega) h] at hX
        exact .inl ⟨(congrArg Prod.snd hX).symm, by rw [hR]; exact h, by rw [hR]; exact (congrArg Prod.fst hX).symm⟩
      · rw [addR_no hv (by omega) h] at hX
        exact .inr ⟨(congrArg Prod.snd hX).symm, by rw [hR]; exact h, (congrArg Prod.fst hX).symm⟩
    rw [hX, enc2_eq] at q2'
    have hl1 : 0 < l.length → (l[l.length - 1]?).map (·.day) = some (lastDay l) := fun h => by rw [List.getElem?_eq_getElem (by omega), Option.map_some, lastDay_at _ rfl]
    rw [← hR] at hgf
    have hpi : isI p := by rw [hp]; have := partyOf_in hv; exact isI_of (by omega)
    have hq : PSpec Tryd.prog 12 [encRs l, .int (l[0]'(by omega)).party, .int kind, .int day, encB body] (.tup [encRs X, .int e]) := by
      rw [← hpp]; exact q2'
    have hml : (l.map encR).length = l.length := List.length_map ..
    have hmX : (X.map encR).length = X.length := List.length_map ..
    have hXl : X.length = l.length + 1 ∨ X.length = 0 := by
      rcases hcase with ⟨_, _, h⟩ | ⟨_, _, h⟩
      · left; rw [h]; simp
      · right; rw [h]; rfl
    refine .inl ⟨_, hq, ?_⟩
    rcases hcase with ⟨h1, h2, h3⟩ | ⟨h1, h2, h3⟩
    · have hX2 : X.length = l.length + 1 := by rw [h3]; simp
      have c1 := cut_len (r := R) h3
      have hXc : ∀ x ∈ X, x.can := fun x hx => by
        rw [h3] at hx
        rcases List.mem_append.1 hx with h | h
        · exact hcan x h
        · rw [List.mem_singleton.1 h, hR]; exact mkR_can hcan h30 hpi hk hd (by omega)
      have hvX : Valid X := by rw [h3]; exact valid_snoc hv h2
      have q4 := rvSameL_rows l (fun r hr => (hl r hr).2.2.2.2)
      rw [sameL2_refl] at q4
      have q5 := evCheck_spec X hXc (by omega)
      rw [validB_true hvX] at q5
      have hRat : X[l.length]'(by omega) = R := by simp [h3]
      have hRat2 : X[(l.map encR).length]'(by omega) = R := by simp [h3]
      have q6 := take_valid hXc hvX (by omega)
      have q7 := q3 (by assumption)
      have dh := digEq R.prev (headOf l) (by rw [hR]; exact headOf_len l) (headOf_len l)
      rw [decide_eq_true (by rw [hR]; rfl)] at dh
      have hR1 : R.no = l.length := by rw [hR]; rfl
      have hR2' : R.party = p := by rw [hR]; rfl
      have hR2 := hR2'.trans hpp
      have hR3 : R.kind = kind := by rw [hR]; rfl
      have hR4 : R.day = day := by rw [hR]; rfl
      have hR5 : R.body = body := by rw [hR]; rfl
      obtain ⟨t, ht⟩ : ∃ t, t = true := ⟨_, rfl⟩
      rw [← ht] at q4 dh
      clear hR
      repeat' ((try conv => whnf); first | (first | refine k3 (fun hb => ?_) fun hb => ?_ | refine k4 (fun hb => ?_) fun hb => ?_) <;> (try rw [List.length_map] at hb) <;> (try (exfalso; omega; done)) | refine And.intro rfl ?_ | refine s4 nm ?_ | refine And.intro bd ?_ | fail)
      all_goals try (exfalso; omega; done)
      refine .inl ⟨_, q4 _ c1, ?_⟩
      repeat' ((try conv => whnf); first | refine k5 (fun hb => ?_) fun hb => ?_ | fail)
      rotate_left
      · exact absurd ht (by simp_all)
      refine .inl ⟨_, q5, ?_⟩
      repeat' ((try conv => whnf); first | refine And.intro rfl ?_ | refine s5 nm nm ?_ | fail)
      refine Wp.loop (fun k : Nat => ⟨[(0, .pure (encRs l)), (1, .int kind), (2, .int day), (3, .pure (encB body)), (9, .int (l[0]'(by omega)).party), (10, .pure (encRs X)), (13, .loc 13 0 0), (111, .int X.length), (112, .int k)], [(13, some (.box (pures (encR (X[(l.map encR).length]'(by omega))))))], [13]⟩) (fun k => k ≤ X.length) (fun k => X.length - k) 0 (Le.of ?_ ?_ rfl rfl rfl) (by omega) ?_
      · (repeat' (first | exact trivial | refine And.intro ?_ ?_ | exact Or.inl rfl | exact l1 bd | fail))
      · (repeat' (first | exact trivial | refine And.intro ?_ ?_ | refine Exists.intro _ (And.intro rfl ?_) | exact Or.inl rfl | fail))
      intro k hkk
      by_cases hk2 : k < X.length
      · refine code_sound (more := more6 false _ _) more6_ok FOK.wide _ ?_
        repeat' ((try conv => whnf); first | (first | refine k3 (fun hb => ?_) fun hb => ?_ | refine k4 (fun hb => ?_) fun hb => ?_) <;> (try rw [List.length_map] at hb) <;> (try (exfalso; omega; done)) | refine And.intro bd ?_ | fail)
        refine .inl ⟨_, q6 k _ (by rw [cut_map, ← cut_zero]; rfl), ?_⟩
        repeat' ((try conv => whnf); first | refine s4 nm ?_ | fail)
        exact ⟨k + 1, Le.of (by (repeat' (first | exact trivial | refine And.intro ?_ ?_ | exact Or.inl rfl | fail))) (by (repeat' (first | exact trivial | refine And.intro ?_ ?_ | refine Exists.intro _ (And.intro rfl ?_) | exact Or.inl rfl | fail))) rfl rfl rfl, by omega, by omega⟩
      · rw [hRat2]
        refine code_sound (more := more6 false _ _) more6_ok FOK.wide _ ?_
        repeat' ((try conv => whnf); first | (first | refine k3 (fun hb => ?_) fun hb => ?_ | refine k4 (fun hb => ?_) fun hb => ?_) <;> (try rw [List.length_map] at hb) <;> (try (exfalso; omega; done)) | fail)
        refine Wp.draw (more := more6 true _ _) more6_det more6_ok FOK.wide rfl (by decide +kernel) (by conv => lhs; reduce) ?_
        repeat' ((try conv => whnf); first | (first | refine k3 (fun hb => ?_) fun hb => ?_ | refine k4 (fun hb => ?_) fun hb => ?_) <;> (try rw [List.length_map] at hb) <;> (try (exfalso; omega; done)) | refine s7 ?_ | fail)
        rotate_left
        · exact absurd (congrArg (fun x : List UInt8 => (⟨x.toArray⟩ : ByteArray)) hR5) (by assumption)
        refine ⟨_, q7, ?_⟩
        repeat' ((try conv => whnf); first | refine And.intro rfl ?_ | fail)
        refine ⟨_, dh, isAg, isAp, ?_⟩
        skip
        exact PSub.val_bool ht
    · have hX2 : X.length = 0 := by rw [h3]; rfl
      repeat' ((try conv => whnf); first | (first | refine k3 (fun hb => ?_) fun hb => ?_ | refine k4 (fun hb => ?_) fun hb => ?_) <;> (try rw [List.length_map] at hb) <;> (try (exfalso; omega; done)) | refine And.intro rfl ?_ | refine s4 nm ?_ | refine s6 nm nm ?_ | fail)
      any_goals exact PSub.val_bool rfl
      all_goals try (exfalso; omega; done)
      all_goals try (exfalso; refine h2 (hgf.2 ⟨?_, ?_, ?_⟩) <;> omega; done)
      all_goals
        have e2 := lastDay_at (l := l) (n := (((l.map encR).length : Int) - 1).toNat) (by rw [List.length_map]; omega) (by rw [List.length_map]; omega)
        refine PSub.val_bool ?_
        rw [Bool.not_eq_true', decide_eq_false_iff_not]
        intro hle
        exact h2 (hgf.2 ⟨by omega, by omega, by omega⟩)
  · have hpp : p = (7 : Int) := by
      rw [hp]
      unfold partyOf
      first
      | (rw [if_pos (by omega)]; exact (e1 (by omega)).symm)
      | (rw [if_neg (by omega)])
    have hcan := (ca (by assumption)).1
    have h30 := (ca (by assumption)).2.1
    have hv : Valid l := errV_zero (by rw [← hx]; assumption)
    have q2' := q2 (by assumption) (by omega)
    have hgf := grows_fits (kind := kind) (day := day) (body := body) hv h30 (by omega)
    rw [← hp] at hgf
    obtain ⟨X, e, hX⟩ : ∃ X e, addR l (mkR l p kind day body) = (X, e) := ⟨_, _, rfl⟩
    obtain ⟨R, hR⟩ : ∃ R, R = mkR l p kind day body := ⟨_, rfl⟩
    have hcase : (e = 0 ∧ Fits l R ∧ X = l ++ [R]) ∨ (e = 500 ∧ ¬ Fits l R ∧ X = []) := by
      by_cases h : Fits l (mkR l p kind day body)
      · rw [addR_yes hv (by omega) h] at hX
        exact .inl ⟨(congrArg Prod.snd hX).symm, by rw [hR]; exact h, by rw [hR]; exact (congrArg Prod.fst hX).symm⟩
      · rw [addR_no hv (by omega) h] at hX
        exact .inr ⟨(congrArg Prod.snd hX).symm, by rw [hR]; exact h, (congrArg Prod.fst hX).symm⟩
    rw [hX, enc2_eq] at q2'
    have hl1 : 0 < l.length → (l[l.length - 1]?).map (·.day) = some (lastDay l) := fun h => by rw [List.getElem?_eq_getElem (by omega), Option.map_some, lastDay_at _ rfl]
    rw [← hR] at hgf
    have hpi : isI p := by rw [hp]; have := partyOf_in hv; exact isI_of (by omega)
    have hq : PSpec Tryd.prog 12 [encRs l, .int (7 : Int), .int kind, .int day, encB body] (.tup [encRs X, .int e]) := by
      rw [← hpp]; exact q2'
    have hml : (l.map encR).length = l.length := List.length_map ..
    have hmX : (X.map encR).length = X.length := List.length_map ..
    have hXl : X.length = l.length + 1 ∨ X.length = 0 := by
      rcases hcase with ⟨_, _, h⟩ | ⟨_, _, h⟩
      · left; rw [h]; simp
      · right; rw [h]; rfl
    refine .inl ⟨_, hq, ?_⟩
    rcases hcase with ⟨h1, h2, h3⟩ | ⟨h1, h2, h3⟩
    · have hX2 : X.length = l.length + 1 := by rw [h3]; simp
      have c1 := cut_len (r := R) h3
      have hXc : ∀ x ∈ X, x.can := fun x hx => by
        rw [h3] at hx
        rcases List.mem_append.1 hx with h | h
        · exact hcan x h
        · rw [List.mem_singleton.1 h, hR]; exact mkR_can hcan h30 hpi hk hd (by omega)
      have hvX : Valid X := by rw [h3]; exact valid_snoc hv h2
      have q4 := rvSameL_rows l (fun r hr => (hl r hr).2.2.2.2)
      rw [sameL2_refl] at q4
      have q5 := evCheck_spec X hXc (by omega)
      rw [validB_true hvX] at q5
      have hRat : X[l.length]'(by omega) = R := by simp [h3]
      have hRat2 : X[(l.map encR).length]'(by omega) = R := by simp [h3]
      have q6 := take_valid hXc hvX (by omega)
      have q7 := q3 (by assumption)
      have dh := digEq R.prev (headOf l) (by rw [hR]; exact headOf_len l) (headOf_len l)
      rw [decide_eq_true (by rw [hR]; rfl)] at dh
      have hR1 : R.no = l.length := by rw [hR]; rfl
      have hR2' : R.party = p := by rw [hR]; rfl
      have hR2 := hR2'.trans hpp
      have hR3 : R.kind = kind := by rw [hR]; rfl
      have hR4 : R.day = day := by rw [hR]; rfl
      have hR5 : R.body = body := by rw [hR]; rfl
      obtain ⟨t, ht⟩ : ∃ t, t = true := ⟨_, rfl⟩
      rw [← ht] at q4 dh
      clear hR
      repeat' ((try conv => whnf); first | (first | refine k3 (fun hb => ?_) fun hb => ?_ | refine k4 (fun hb => ?_) fun hb => ?_) <;> (try rw [List.length_map] at hb) <;> (try (exfalso; omega; done)) | refine And.intro rfl ?_ | refine s4 nm ?_ | refine And.intro bd ?_ | fail)
      all_goals try (exfalso; omega; done)
      refine .inl ⟨_, q4 _ c1, ?_⟩
      repeat' ((try conv => whnf); first | refine k5 (fun hb => ?_) fun hb => ?_ | fail)
      rotate_left
      · exact absurd ht (by simp_all)
      refine .inl ⟨_, q5, ?_⟩
      repeat' ((try conv => whnf); first | refine And.intro rfl ?_ | refine s5 nm nm ?_ | fail)
      refine Wp.loop (fun k : Nat => ⟨[(0, .pure (encRs l)), (1, .int kind), (2, .int day), (3, .pure (encB body)), (9, .int (7 : Int)), (10, .pure (encRs X)), (13, .loc 13 0 0), (111, .int X.length), (112, .int k)], [(13, some (.box (pures (encR (X[(l.map encR).length]'(by omega))))))], [13]⟩) (fun k => k ≤ X.length) (fun k => X.length - k) 0 (Le.of ?_ ?_ rfl rfl rfl) (by omega) ?_
      · (repeat' (first | exact trivial | refine And.intro ?_ ?_ | exact Or.inl rfl | exact l1 bd | fail))
      · (repeat' (first | exact trivial | refine And.intro ?_ ?_ | refine Exists.intro _ (And.intro rfl ?_) | exact Or.inl rfl | fail))
      intro k hkk
      by_cases hk2 : k < X.length
      · refine code_sound (more := more6 false _ _) more6_ok FOK.wide _ ?_
        repeat' ((try conv => whnf); first | (first | refine k3 (fun hb => ?_) fun hb => ?_ | refine k4 (fun hb => ?_) fun hb => ?_) <;> (try rw [List.length_map] at hb) <;> (try (exfalso; omega; done)) | refine And.intro bd ?_ | fail)
        refine .inl ⟨_, q6 k _ (by rw [cut_map, ← cut_zero]; rfl), ?_⟩
        repeat' ((try conv => whnf); first | refine s4 nm ?_ | fail)
        exact ⟨k + 1, Le.of (by (repeat' (first | exact trivial | refine And.intro ?_ ?_ | exact Or.inl rfl | fail))) (by (repeat' (first | exact trivial | refine And.intro ?_ ?_ | refine Exists.intro _ (And.intro rfl ?_) | exact Or.inl rfl | fail))) rfl rfl rfl, by omega, by omega⟩
      · rw [hRat2]
        refine code_sound (more := more6 false _ _) more6_ok FOK.wide _ ?_
        repeat' ((try conv => whnf); first | (first | refine k3 (fun hb => ?_) fun hb => ?_ | refine k4 (fun hb => ?_) fun hb => ?_) <;> (try rw [List.length_map] at hb) <;> (try (exfalso; omega; done)) | fail)
        refine Wp.draw (more := more6 true _ _) more6_det more6_ok FOK.wide rfl (by decide +kernel) (by conv => lhs; reduce) ?_
        repeat' ((try conv => whnf); first | (first | refine k3 (fun hb => ?_) fun hb => ?_ | refine k4 (fun hb => ?_) fun hb => ?_) <;> (try rw [List.length_map] at hb) <;> (try (exfalso; omega; done)) | refine s7 ?_ | fail)
        rotate_left
        · exact absurd (congrArg (fun x : List UInt8 => (⟨x.toArray⟩ : ByteArray)) hR5) (by assumption)
        refine ⟨_, q7, ?_⟩
        repeat' ((try conv => whnf); first | refine And.intro rfl ?_ | fail)
        refine ⟨_, dh, isAg, isAp, ?_⟩
        skip
        exact PSub.val_bool ht
    · have hX2 : X.length = 0 := by rw [h3]; rfl
      repeat' ((try conv => whnf); first | (first | refine k3 (fun hb => ?_) fun hb => ?_ | refine k4 (fun hb => ?_) fun hb => ?_) <;> (try rw [List.length_map] at hb) <;> (try (exfalso; omega; done)) | refine And.intro rfl ?_ | fail)
      any_goals exact PSub.val_bool rfl
      all_goals try (exfalso; omega; done)
      all_goals try (exfalso; refine h2 (hgf.2 ⟨?_, ?_, ?_⟩) <;> omega; done)
      all_goals
        have e2 := lastDay_at (l := l) (n := (((l.map encR).length : Int) - 1).toNat) (by rw [List.length_map]; omega) (by rw [List.length_map]; omega)
        refine PSub.val_bool ?_
        rw [Bool.not_eq_true', decide_eq_false_iff_not]
        intro hle
        exact h2 (hgf.2 ⟨by omega, by omega, by omega⟩)
end Go.Proofs.YtfgcfokcmlkmfaaDoor
