/- Records: the law RecordsReads. Conditions: none. -/
import Derived.Test.YtmaggokcjcdllaaWm
import Derived.Test.YtmaggokcjcdllaaWq
import Derived.Test.YtmaggokcjcdllaaWd
set_option linter.unusedSimpArgs false
set_option linter.unusedVariables false
namespace Go.Proofs.Ytmaggokcjcdllaa
open Go.Avc
theorem spN_keep {dif : Nat → Bool} {n : Nat} {d : Int} (p : Int × Int) (hp : p ∈ spN dif n) (h : p.1 ≤ d ∧ d < p.2) : ∃ q ∈ spN dif (n + 1), q.1 ≤ d ∧ d < q.2 := by
  unfold spN
  split
  · split
    · rename_i q hq
      split
      · rename_i hqn
        obtain ⟨l, hl⟩ : ∃ l, spN dif n = l ++ [q] := by
          have hne : spN dif n ≠ [] := fun e => by rw [e] at hp; cases hp
          have hlast : (spN dif n).getLast hne = q := by
            rw [List.getLast?_eq_some_getLast hne] at hq
            exact Option.some.inj hq
          exact ⟨(spN dif n).dropLast, by rw [← hlast]; exact (List.dropLast_concat_getLast hne).symm⟩
        rw [hl] at hp ⊢
        rw [List.mem_append, List.mem_singleton] at hp
        rcases hp with hp | rfl
        · exact ⟨p, by simp [hp], h⟩
        · refine ⟨(p.1, (n : Int) + 1), by simp, h.1, ?_⟩
          simp only; omega
      · exact ⟨p, by simp [hp], h⟩
    · exact ⟨p, by simp [hp], h⟩
  · exact ⟨p, hp, h⟩
/-- Each day that has the property lies in a span. -/
theorem spN_cover {dif : Nat → Bool} : ∀ {n d : Nat}, d < n → dif d = true → ∃ p ∈ spN dif n, p.1 ≤ (d : Int) ∧ (d : Int) < p.2
  | 0, d, h, _ => by omega
  | n + 1, d, h, hd => by
    by_cases e : d = n
    · subst e
      unfold spN
      rw [if_pos hd]
      split
      · rename_i q hq
        have hq2 := spN_to dif d q (List.mem_of_getLast? hq)
        split
        · exact ⟨(q.1, (d : Int) + 1), by simp, by simp only; omega, by simp only; omega⟩
        · exact ⟨((d : Int), (d : Int) + 1), by simp, by simp only; omega, by simp only; omega⟩
      · exact ⟨((d : Int), (d : Int) + 1), by simp, by simp only; omega, by simp only; omega⟩
    · obtain ⟨p, hp, h2⟩ := spN_cover (n := n) (d := d) (by omega) hd
      exact spN_keep p hp h2
theorem at_form (l : List Fa) (k : Ky) (d kn : Int) : (atF l k d kn = (0, false) ∧ pnt l k kn d = -1) ∨ ∃ v, 0 ≤ v ∧ atF l k d kn = (v, true) ∧ pnt l k kn d = v := by
  have h : (atF l k d kn = (0, false)) ∨ ∃ v, 0 ≤ v ∧ atF l k d kn = (v, true) := by
    unfold atF valF
    split
    · split
      · exact .inl rfl
      · exact .inr ⟨_, by omega, rfl⟩
    · exact .inl rfl
  rcases h with h | ⟨v, h1, h2⟩
  · exact .inl ⟨h, by unfold pnt; rw [h]; rfl⟩
  · exact .inr ⟨v, h1, h2, by unfold pnt; rw [h2]; rfl⟩
theorem at_of_pnt {l : List Fa} {k : Ky} {d a b : Int} (h : pnt l k a d = pnt l k b d) : atF l k d a = atF l k d b := by
  rcases at_form l k d a with ⟨h1, h2⟩ | ⟨v, h0, h1, h2⟩ <;> rcases at_form l k d b with ⟨h3, h4⟩ | ⟨u, h5, h3, h4⟩
  · rw [h1, h3]
  · omega
  · omega
  · rw [h1, h3, show v = u by omega]
/-- A read of one day that is alike. -/
theorem alike_at {l : List Fa} {b a : Int} {r : Rd} {d : Int} (hd : 0 ≤ d ∧ d < 1024) (hr : r.lo = d ∧ r.hi = d + 1) (h : alikeR l b a r) : atF l r.key d b = atF l r.key d a := by
  refine at_of_pnt (Decidable.byContradiction fun hne => ?_)
  obtain ⟨n, rfl⟩ : ∃ n : Nat, d = n := ⟨d.toNat, by omega⟩
  have hn : n < 1024 := by omega
  have hp : ∀ kn, (pntL l r.key kn).getD n 0 = pnt l r.key kn n := fun kn => by
    rw [getD_at (by rw [pntL_len]; exact hn)]
    simp [pntL]
  have hdif : difA (pntL l r.key b) (pntL l r.key a) n = true := by
    unfold difA
    rw [hp, hp]
    simp [hne]
  obtain ⟨p, hp1, hp2⟩ := spN_cover hn hdif
  have hnot := h p hp1
  unfold hitS at hnot
  omega
theorem alike_mem {l : List Fa} {rds : List Rd} {b a : Int} (h : alikeF l rds b a = true) : ∀ r ∈ rds, alikeR l b a r := fun r hr => by
  unfold alikeF at h
  rw [List.all_eq_true] at h
  exact of_decide_eq_true (h r hr)
theorem atW_kn {w : Wd} {s p i d a b : Int} (h : ∀ j, j < nF w.src s → lookW w s p i d a j = lookW w s p i d b j) : atW w s p i d a = atW w s p i d b := by
  have e2 := goodN_congr h
  have e3 : (List.range (nF w.src s)).map (fun j => (lookW w s p i d a j).1) = (List.range (nF w.src s)).map (fun j => (lookW w s p i d b j).1) :=
    List.map_congr_left fun j hj => by rw [h j (List.mem_range.1 hj)]
  unfold atW
  simp only [e2, e3]
/-- What looks alike leads to the same credential. -/
theorem atW_alike {w : Wd} {s p i d b a : Int} (h : ∀ r ∈ (atW w s p i d b).2.1, alikeR w.facts b a r) : atW w s p i d a = atW w s p i d b := by
  by_cases hask : askOK w s p i d
  · have hday : 0 ≤ d ∧ d < 1024 := hask.2.2.2.2.2
    have hlook : ∀ j, readW s p i d j ∈ (atW w s p i d b).2.1 → lookW w s p i d a j = lookW w s p i d b j := fun j hj => by
      have h1 := alike_at (r := readW s p i d j) hday ⟨rfl, rfl⟩ (h _ hj)
      have h2 : atF w.facts (keyW s p i ((j : Int) + 1)) d b = atF w.facts (keyW s p i ((j : Int) + 1)) d a := h1
      unfold lookW
      rw [h2]
    obtain ⟨g1, g2⟩ := goodN_spec (lookW w s p i d b) (nF w.src s)
    by_cases hg : goodN (lookW w s p i d b) (nF w.src s) = nF w.src s
    · refine atW_kn (fun j hj => hlook j ?_)
      unfold atW
      rw [if_pos hask, if_pos hg]
      exact List.mem_map_of_mem (List.mem_range.2 hj)
    · have hlt : goodN (lookW w s p i d b) (nF w.src s) < nF w.src s := by have := goodN_le (lookW w s p i d b) (nF w.src s); omega
      have hl2 : ∀ j, j < goodN (lookW w s p i d b) (nF w.src s) + 1 → lookW w s p i d a j = lookW w s p i d b j := fun j hj => hlook j (by
        unfold atW
        rw [if_pos hask, if_neg hg]
        exact List.mem_map_of_mem (List.mem_range.2 hj))
      have he : goodN (lookW w s p i d a) (nF w.src s) = goodN (lookW w s p i d b) (nF w.src s) := goodN_bad hlt (by rw [hl2 _ (by omega)]; exact g2 hlt) fun j hj => by rw [hl2 j (by omega)]; exact g1 j hj
      unfold atW
      rw [if_pos hask, if_pos hask, he, if_neg hg, if_neg hg]
  · rw [ask_no hask, ask_no hask]
theorem allW_alike {w : Wd} {p d b a : Int} (h : ∀ r ∈ (allW w p d b).2, alikeR w.facts b a r) : allW w p d a = allW w p d b := by
  have hc : ∀ n, n < 4 * w.src.schemas.length → crW w p d a n = crW w p d b n := fun n hn => by
    unfold crW
    refine atW_alike fun r hr => h r ?_
    unfold allW crRd
    simp only
    rw [List.mem_flatMap]
    exact ⟨n, List.mem_range.2 hn, hr⟩
  unfold allW crIn crRd
  congr 1
  · refine congrArg List.flatten (List.map_congr_left fun n hn => ?_)
    rw [hc n (List.mem_range.1 hn)]
  · refine congrArg List.flatten (List.map_congr_left fun n hn => ?_)
    rw [hc n (List.mem_range.1 hn)]
end Go.Proofs.Ytmaggokcjcdllaa
/- Records: the law RecordsReads, walked. Conditions: none. -/
namespace Go.Proofs.Ytmaggokcjcdllaa
open Go.Avc
set_option maxRecDepth 20000
set_option maxHeartbeats 4000000
set_option linter.unusedSimpArgs false
attribute [local irreducible] PSub Wp PSpec Le Need Both
attribute [local irreducible] putW atW allW keyP alikeF
theorem reads_law (w : Wd) (hs : w.src.sz) (a b c d e f : Int) : PSpec Try.prog 9 [.agg (encWd w), .int a, .int b, .int c, .int d, .int e, .int f] (.bool true) := by
  obtain ⟨t, ht⟩ : ∃ t : Bool, t = true := ⟨_, rfl⟩
  have q0 := sane_spec
  rw [← ht] at q0
  have qf := few_spec w hs
  obtain ⟨g, hg⟩ : ∃ g, g = fewW w := ⟨_, rfl⟩
  rw [← hg] at qf
  by_cases hg1 : g = false
  case pos =>
    rw [hg1] at qf
    refine PSpec.of_vc (fun Γ => more8 false Γ.P Γ.fx) (fun Γ => more8_ok) Try.func9 rfl Try.call9 (by simp) ?_
    rintro ⟨P, N, w0, X, β0, fx, y, hy, pk, df⟩ rfl rfl rfl hoff rfl; change y.on = false at hoff
    skip
    refine .inl ⟨_, q0, ?_⟩
    repeat' ((try conv => whnf); first | refine k5 (fun hb => ?_) fun hb => ?_ | fail)
    · refine .inl ⟨_, qf, ?_⟩
      skip
      exact PSub.refl _
    · subst ht; contradiction
  rw [Bool.not_eq_false] at hg1
  have hw := few_of hs (hg ▸ hg1)
  rw [hg1, ← ht] at qf
  have hfa := hw.fa
  have q1 := atw_spec w hw a b c d e
  have q2 := atw_spec w hw a b c d f
  have l1 := atW_vals hw a b c d e
  have l2 := atW_len hw a b c d e
  have hal := atW_alike (w := w) (s := a) (p := b) (i := c) (d := d) (b := e) (a := f)
  obtain ⟨y, hy⟩ : ∃ y, y = atW w a b c d f := ⟨_, rfl⟩
  rw [← hy] at q2 hal
  obtain ⟨⟨x, rds, o⟩, hx⟩ : ∃ x, x = atW w a b c d e := ⟨_, rfl⟩
  rw [← hx] at q1 l1 l2 hal
  dsimp only at l1 l2 hal
  have v1 := alike_spec w.facts rds e f (by omega) (by omega)
  obtain ⟨al, hal0⟩ : ∃ z, z = alikeF w.facts rds e f := ⟨_, rfl⟩
  rw [← hal0] at v1
  have q2' : al = true → PSpec Try.prog 12 [.agg (encWd w), .int a, .int b, .int c, .int d, .int f] (encAW (x, rds, o)) := fun h => by
    rw [hal (alike_mem (by rw [← hal0]; exact h))] at q2; exact q2
  have q3 := sameIn_self x (by omega) ht
  have q4 := sameRd_self rds (by omega) ht
  have u1 := all_spec w hw b d e
  have u2 := all_spec w hw b d f
  have h6 := hw.sc
  have m1 := crIn_vals hw b d e (4 * w.src.schemas.length)
  have m2 := crIn_len w b d e (4 * w.src.schemas.length)
  have m3 := crRd_len hw b d e (4 * w.src.schemas.length)
  have e0 : allW w b d e = (crIn w b d e (4 * w.src.schemas.length), crRd w b d e (4 * w.src.schemas.length)) := by unfold allW; rfl
  have hall := allW_alike (w := w) (p := b) (d := d) (b := e) (a := f)
  rw [e0] at u1 hall
  obtain ⟨z, hz⟩ : ∃ x, x = crIn w b d e (4 * w.src.schemas.length) := ⟨_, rfl⟩
  obtain ⟨rt, hrt⟩ : ∃ x, x = crRd w b d e (4 * w.src.schemas.length) := ⟨_, rfl⟩
  rw [← hz, ← hrt] at u1 hall
  rw [← hz] at m1 m2
  rw [← hrt] at m3
  dsimp only at hall
  have v2 := alike_spec w.facts rt e f (by omega) (by omega)
  obtain ⟨bl, hbl0⟩ : ∃ z, z = alikeF w.facts rt e f := ⟨_, rfl⟩
  rw [← hbl0] at v2
  replace u2 : bl = true → PSpec Try.prog 18 [.agg (encWd w), .int b, .int d, .int f] (encIRs (z, rt)) := fun h => by
    rw [hall (alike_mem (by rw [← hbl0]; exact h))] at u2; exact u2
  have u3 := sameIns_self z (fun v hv => by have := m1 v hv; omega) (by omega) ht
  have u4 := sameRd_self rt (by omega) ht
  clear e0 hz hrt hall hal hy hx hal0 hbl0 q2 l1
  refine PSpec.of_vc (fun Γ => more8 false Γ.P Γ.fx) (fun Γ => more8_ok) Try.func9 rfl Try.call9 (by simp) ?_
  rintro ⟨P, N, w0, X, β0, fx, y, hy, pk, df⟩ rfl rfl rfl hoff rfl; change y.on = false at hoff
  skip
  refine .inl ⟨_, q0, ?_⟩
  repeat' ((try conv => whnf); first | refine k5 (fun hb => ?_) fun hb => ?_ | fail)
  all_goals first
    | (exfalso; subst ht; contradiction)
    | (exfalso; simp_all; done)
    | skip
  refine .inl ⟨_, qf, ?_⟩
  repeat' ((try conv => whnf); first | refine k5 (fun hb => ?_) fun hb => ?_ | fail)
  all_goals first
    | (exfalso; subst ht; contradiction)
    | (exfalso; simp_all; done)
    | skip
  refine .inl ⟨_, q1, ?_⟩
  repeat' ((try conv => whnf); first | refine And.intro rfl ?_ | fail)
  refine .inl ⟨_, v1, ?_⟩
  repeat' ((try conv => whnf); first | refine k6 (fun hb => ?_) fun hb => ?_ | fail)
  · refine .inl ⟨_, q2' (by assumption), ?_⟩
    repeat' ((try conv => whnf); first | refine k1 (fun hb => ?_) fun hb => ?_ | refine And.intro rfl ?_ | fail)
    all_goals first
      | (exfalso; subst ht; contradiction)
      | (exfalso; simp_all; done)
      | skip
    refine .inl ⟨_, q3, ?_⟩
    repeat' ((try conv => whnf); first | refine k5 (fun hb => ?_) fun hb => ?_ | fail)
    all_goals first
      | (exfalso; subst ht; contradiction)
      | (exfalso; simp_all; done)
      | skip
    refine .inl ⟨_, q4, ?_⟩
    repeat' ((try conv => whnf); first | refine k5 (fun hb => ?_) fun hb => ?_ | fail)
    all_goals first
      | (exfalso; subst ht; contradiction)
      | (exfalso; simp_all; done)
      | skip
    refine .inl ⟨_, u1, ?_⟩
    repeat' ((try conv => whnf); first | refine And.intro rfl ?_ | fail)
    refine .inl ⟨_, v2, ?_⟩
    repeat' ((try conv => whnf); first | refine k5 (fun hb => ?_) fun hb => ?_ | fail)
    · refine .inl ⟨_, u2 (by assumption), ?_⟩
      repeat' ((try conv => whnf); first | refine And.intro rfl ?_ | fail)
      refine .inl ⟨_, u3, ?_⟩
      repeat' ((try conv => whnf); first | refine k6 (fun hb => ?_) fun hb => ?_ | fail)
      all_goals first
        | (exfalso; subst ht; contradiction)
        | (exfalso; simp_all; done)
        | skip
      refine .inl ⟨_, u4, ?_⟩
      skip
      exact PSub.val_bool ht
    · exact PSub.refl _
  · refine .inl ⟨_, u1, ?_⟩
    repeat' ((try conv => whnf); first | refine And.intro rfl ?_ | fail)
    refine .inl ⟨_, v2, ?_⟩
    repeat' ((try conv => whnf); first | refine k5 (fun hb => ?_) fun hb => ?_ | fail)
    · refine .inl ⟨_, u2 (by assumption), ?_⟩
      repeat' ((try conv => whnf); first | refine And.intro rfl ?_ | fail)
      refine .inl ⟨_, u3, ?_⟩
      repeat' ((try conv => whnf); first | refine k6 (fun hb => ?_) fun hb => ?_ | fail)
      all_goals first
        | (exfalso; subst ht; contradiction)
        | (exfalso; simp_all; done)
        | skip
      refine .inl ⟨_, u4, ?_⟩
      skip
      exact PSub.val_bool ht
    · exact PSub.refl _
end Go.Proofs.Ytmaggokcjcdllaa
