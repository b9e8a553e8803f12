/- Records: the chapter's examples. Conditions: none. -/
import Derived.Test.YtmaggokcjcdllaaWd
import Derived.Test.YtmaggokcjcdllaaWj
import Derived.Test.YtmaggokcjcdllaaWk
import Derived.Test.YtmaggokcjcdllaaWe
set_option linter.unusedSimpArgs false
set_option linter.unusedVariables false
namespace Go.Proofs.Ytmaggokcjcdllaa
open Go.Avc
def bSelf : Bs := ⟨#[115, 101, 108, 102]⟩
def fSelf : Fd := ⟨bSelf, ⟨3, 0, 4095, ⟨#[]⟩, -1, []⟩, 0, 0, 0, 0⟩
def fNum : Fd := ⟨⟨#[110]⟩, ⟨1, 0, 9, ⟨#[]⟩, -1, []⟩, 0, 0, 0, 0⟩
def fMo : Fd := ⟨⟨#[109]⟩, ⟨3, 0, 4095, ⟨#[]⟩, -1, []⟩, 0, 0, 0, 0⟩
def smpS : Src := ⟨[⟨#[105]⟩], [], [⟨⟨#[97]⟩, ⟨#[105]⟩, 0, 1, [fSelf, fNum, fMo], []⟩, ⟨⟨#[98]⟩, ⟨#[105]⟩, 0, 1, [fSelf, fNum], []⟩], [⟨⟨#[98]⟩, 1, [], [], []⟩], [], []⟩
def smpW : Wd := ⟨smpS, [], []⟩
def smpX : In := ⟨0, 7, 1, [7, 5, 8]⟩
def smpY : Wd := ⟨smpS, [], [⟨⟨0, 7, 17⟩, 5, 3, 5, 10, 0⟩, ⟨⟨0, 7, 18⟩, 8, 3, 5, 10, 1⟩]⟩
theorem smp_sz : smpS.sz := by
  refine ⟨by decide, by decide, by decide, by decide, by decide, by decide, ?_, ?_, ?_, ?_⟩
  · intro c hc
    simp only [smpS, List.mem_cons, List.not_mem_nil, or_false] at hc
    rcases hc with rfl | rfl
    · refine ⟨by decide, by decide, ?_, ?_⟩
      · intro x hx
        simp only [List.mem_cons, List.not_mem_nil, or_false] at hx
        rcases hx with rfl | rfl | rfl <;> decide
      · intro x hx; cases hx
    · refine ⟨by decide, by decide, ?_, ?_⟩
      · intro x hx
        simp only [List.mem_cons, List.not_mem_nil, or_false] at hx
        rcases hx with rfl | rfl <;> decide
      · intro x hx; cases hx
  · intro c hc
    simp only [smpS, List.mem_cons, List.not_mem_nil, or_false] at hc
    subst hc
    exact ⟨by decide, by decide, by decide⟩
  · intro c hc; cases hc
  · intro c hc; cases hc
theorem smpW_few : smpW.few := ⟨smp_sz, by decide, by decide, by
  intro c hc
  simp only [smpW, smpS, List.mem_cons, List.not_mem_nil, or_false] at hc
  rcases hc with rfl | rfl <;> decide⟩
theorem smpY_few : smpY.few := ⟨smp_sz, by decide, by decide, smpW_few.fd⟩
theorem e1 : putW smpW smpX ⟨3, 5⟩ 10 = (smpY, 0) := by kernel_rfl
theorem e2 : atW smpY 0 7 1 4 10 = (smpX, [⟨⟨0, 7, 17⟩, 4, 5⟩, ⟨⟨0, 7, 18⟩, 4, 5⟩], true) := by kernel_rfl
theorem e3 : atW smpY 0 7 1 5 10 = (zeroIn, [⟨⟨0, 7, 17⟩, 5, 6⟩], false) := by kernel_rfl
theorem e4 : atW smpY 0 7 1 4 9 = (zeroIn, [⟨⟨0, 7, 17⟩, 4, 5⟩], false) := by kernel_rfl
theorem e5 : atW smpY 1 7 0 4 10 = (zeroIn, [], false) := by kernel_rfl
theorem e6 : allW smpY 7 3 99 = ([smpX], [⟨⟨0, 7, 1⟩, 3, 4⟩, ⟨⟨0, 7, 17⟩, 3, 4⟩, ⟨⟨0, 7, 18⟩, 3, 4⟩, ⟨⟨0, 7, 33⟩, 3, 4⟩, ⟨⟨0, 7, 49⟩, 3, 4⟩]) := by kernel_rfl
theorem e7 : putW smpW ⟨0, 7, 1, [7, 10, 8]⟩ ⟨3, 5⟩ 10 = (zeroWd, 170) := by kernel_rfl
theorem e8 : putW smpW ⟨1, 0, 0, [0, 1]⟩ ⟨3, 5⟩ 10 = (zeroWd, 170) := by kernel_rfl
theorem e9 : putW smpY smpX ⟨3, 5⟩ 9 = (zeroWd, 41) := by kernel_rfl
set_option maxRecDepth 20000
set_option maxHeartbeats 4000000
set_option linter.unusedSimpArgs false
attribute [local irreducible] PSub Wp PSpec Le Need Both
attribute [local irreducible] putW atW allW
theorem sample_spec : PSpec Try.prog 29 [] (.agg (encWd smpW)) := by
  refine PSpec.of_vc (fun Γ => more8 false Γ.P Γ.fx) (fun Γ => more8_ok) Try.func29 rfl Try.call29 (by simp) ?_
  rintro ⟨P, N, w0, X, β0, fx, y, hy, pk, df⟩ rfl rfl rfl hoff rfl; change y.on = false at hoff
  repeat' ((try conv => whnf); first | refine And.intro rfl ?_ | refine And.intro bd ?_ | fail)
  repeat' (first | exact trivial | exact PSub.nil _ | exact PSub.refl _ | refine PSub.agg ?_ | refine PSub.sl ?_ | refine And.intro ?_ ?_)
theorem sane_spec : PSpec Try.prog 10 [] (.bool true) := by
  have p1 := put_spec smpW smpW_few smpX (by decide) ⟨3, 5⟩ 10
  have p7 := put_spec smpW smpW_few ⟨0, 7, 1, [7, 10, 8]⟩ (by decide) ⟨3, 5⟩ 10
  have p8 := put_spec smpW smpW_few ⟨1, 0, 0, [0, 1]⟩ (by decide) ⟨3, 5⟩ 10
  have p9 := put_spec smpY smpY_few smpX (by decide) ⟨3, 5⟩ 9
  have p2 := atw_spec smpY smpY_few 0 7 1 4 10
  have p3 := atw_spec smpY smpY_few 0 7 1 5 10
  have p4 := atw_spec smpY smpY_few 0 7 1 4 9
  have p5 := atw_spec smpY smpY_few 1 7 0 4 10
  have p6 := all_spec smpY smpY_few 7 3 99
  have k1 := Key_spec 0 7 1 2
  have k2 := Key_spec 0 4096 0 0
  have q1 := kyEq ⟨0, 7, 18⟩ ⟨0, 7, 18⟩
  have q2 := kyEq ⟨0, 0, 0⟩ ⟨0, 0, 0⟩
  rw [show keyP 0 7 1 2 = ⟨0, 7, 18⟩ by decide +kernel] at k1
  rw [show keyP 0 4096 0 0 = ⟨0, 0, 0⟩ by decide +kernel] at k2
  rw [decide_eq_true rfl] at q1 q2
  have s1 := sameIn_spec smpX smpX (by decide) (by decide)
  rw [decide_eq_true rfl] at s1
  rw [e1] at p1; rw [e2] at p2; rw [e3] at p3; rw [e4] at p4; rw [e5] at p5; rw [e6] at p6; rw [e7] at p7; rw [e8] at p8; rw [e9] at p9
  refine PSpec.of_vc (fun Γ => more8 false Γ.P Γ.fx) (fun Γ => more8_ok) Try.func10 rfl Try.call10 (by simp) ?_
  rintro ⟨P, N, w0, X, β0, fx, y, hy, pk, df⟩ rfl rfl rfl hoff rfl; change y.on = false at hoff
  skip
  refine .inl ⟨_, sample_spec, ?_⟩
  repeat' ((try conv => whnf); first | refine And.intro rfl ?_ | refine And.intro bd ?_ | fail)
  refine .inl ⟨_, p1, ?_⟩
  repeat' ((try conv => whnf); first | refine And.intro rfl ?_ | fail)
  refine .inl ⟨_, p2, ?_⟩
  repeat' ((try conv => whnf); first | refine And.intro rfl ?_ | fail)
  refine .inl ⟨_, p3, ?_⟩
  repeat' ((try conv => whnf); first | refine And.intro rfl ?_ | fail)
  refine .inl ⟨_, p4, ?_⟩
  repeat' ((try conv => whnf); first | refine And.intro rfl ?_ | fail)
  refine .inl ⟨_, p5, ?_⟩
  repeat' ((try conv => whnf); first | refine And.intro rfl ?_ | fail)
  refine .inl ⟨_, p6, ?_⟩
  repeat' ((try conv => whnf); first | refine And.intro rfl ?_ | refine And.intro bd ?_ | fail)
  refine .inl ⟨_, p7, ?_⟩
  repeat' ((try conv => whnf); first | refine And.intro rfl ?_ | refine And.intro bd ?_ | fail)
  refine .inl ⟨_, p8, ?_⟩
  repeat' ((try conv => whnf); first | refine And.intro rfl ?_ | fail)
  refine .inl ⟨_, p9, ?_⟩
  repeat' ((try conv => whnf); first | refine And.intro rfl ?_ | fail)
  refine Wp.draw (more := more8 true _ _) more8_det more8_ok FOK.wide rfl (by decide +kernel) (by conv => lhs; reduce) ?_
  skip
  refine ⟨_, s1, ?_⟩
  repeat' ((try conv => whnf); first | refine s5 nm nm ?_ | fail)
  refine ⟨_, s1, ?_⟩
  repeat' ((try conv => whnf); first | refine And.intro bd ?_ | fail)
  refine ⟨_, rfl, ?_⟩
  repeat' ((try conv => whnf); first | refine And.intro bd ?_ | fail)
  refine ⟨_, rfl, ?_⟩
  skip
  refine ⟨_, k1, ?_⟩
  repeat' ((try conv => whnf); first | refine And.intro rfl ?_ | fail)
  refine ⟨_, q1, by first | exact isAg | exact isAp, by first | exact isAg | exact isAp, ?_⟩
  skip
  refine ⟨_, k1, ?_⟩
  repeat' ((try conv => whnf); first | refine And.intro rfl ?_ | fail)
  refine ⟨_, q1, by first | exact isAg | exact isAp, by first | exact isAg | exact isAp, ?_⟩
  skip
  refine ⟨_, k2, ?_⟩
  repeat' ((try conv => whnf); first | refine And.intro rfl ?_ | fail)
  refine ⟨_, q2, by first | exact isAg | exact isAp, by first | exact isAg | exact isAp, ?_⟩
  skip
  exact PSub.refl _
end Go.Proofs.Ytmaggokcjcdllaa
/- Records: the laws RecordsSpec, RecordsAllSpec, RecordsPutSpec. Conditions: none. -/
namespace Go.Proofs.Ytmaggokcjcdllaa
open Go.Avc
theorem sameIn_self (x : In) (h : x.values.length ≤ 140737488355328) {t : Bool} (ht : t = true) : PSpec Try.prog 14 [.agg (encIn x), .agg (encIn x)] (.bool t) := by
  have q := sameIn_spec x x h h
  rwa [decide_eq_true rfl, ← ht] at q
theorem sameIns_self (x : List In) (h : ∀ a ∈ x, a.values.length ≤ 140737488355328) (hl : x.length ≤ 140737488355328) {t : Bool} (ht : t = true) : PSpec Try.prog 20 [.sl 4 (x.map encIn), .sl 4 (x.map encIn)] (.bool t) := by
  have q := sameIns_spec x x h h hl hl
  rwa [decide_eq_true rfl, ← ht] at q
theorem sameRd_self (x : List Rd) (hl : x.length ≤ 1000000) {t : Bool} (ht : t = true) : PSpec Try.prog 15 [encRds x, encRds x] (.bool t) := by
  have q := sameR_spec x x hl hl
  rwa [decide_eq_true rfl, ← ht] at q
theorem sameWd_self (w : Wd) (h : w.src.sz) (ho : w.order.length ≤ 140737488355328) (hf : w.facts.length ≤ 1000000) {t : Bool} (ht : t = true) : PSpec Try.prog 23 [.agg (encWd w), .agg (encWd w)] (.bool t) := by
  have q := sameWd_spec w h ho hf
  rwa [← ht] at q
theorem ky_self (k : Ky) {t : Bool} (ht : t = true) : aggEq Try.prog 46 (vKy k).toArray (vKy k).toArray t := by
  have q := kyEq k k
  rwa [decide_eq_true rfl, ← ht] at q
theorem atW_vals {w : Wd} (hw : w.few) (schema person item day kn : Int) : (atW w schema person item day kn).1.values.length ≤ 6 := by
  have h5 := nF_le hw schema
  unfold atW
  split
  · split
    · simp; omega
    · simp [zeroIn]
  · simp [zeroIn]
theorem crIn_vals {w : Wd} (hw : w.few) (person day kn : Int) (n : Nat) : ∀ x ∈ crIn w person day kn n, x.values.length ≤ 6 := by
  intro x hx
  unfold crIn at hx
  rw [List.mem_flatMap] at hx
  obtain ⟨i, _, hx⟩ := hx
  split at hx
  · rw [List.mem_singleton] at hx
    subst hx
    exact atW_vals hw ..
  · cases hx
theorem zeroWd_sz : zeroWd.src.sz := by
  refine ⟨by decide, by decide, by decide, by decide, by decide, by decide, ?_, ?_, ?_, ?_⟩ <;> (intro c hc; cases hc)
theorem putN_len (x : In) (v : Sp) (kn no : Int) : ∀ (n i : Nat) (l : List Fa), (putN x v kn no n i l).1.length ≤ l.length + n
  | 0, i, l => by simp [putN]
  | n + 1, i, l => by
    unfold putN
    split
    · have h1 := putN_len x v kn no n (i + 1) (addF l (factW x v kn no i)).1
      have h2 := addF_len l (factW x v kn no i)
      omega
    · simp
theorem putW_ok {w : Wd} (hw : w.few) (ho : w.order.length ≤ 140737488355328) (x : In) (hx : x.values.length ≤ 30) (v : Sp) (kn : Int) : (putW w x v kn).1.src.sz ∧ (putW w x v kn).1.order.length ≤ 140737488355328 ∧ (putW w x v kn).1.facts.length ≤ 1000 := by
  have hz : zeroWd.src.sz ∧ zeroWd.order.length ≤ 140737488355328 ∧ zeroWd.facts.length ≤ 1000 := ⟨zeroWd_sz, by decide, by decide⟩
  unfold putW
  split
  · exact hz
  · split
    · split
      · refine ⟨hw.sz, ho, ?_⟩
        have := putN_len x v kn (noW w.facts kn) (x.values.length - 1) 1 w.facts
        have := hw.fa
        simp only
        omega
      · exact hz
    · exact hz
set_option maxRecDepth 20000
set_option maxHeartbeats 4000000
set_option linter.unusedSimpArgs false
attribute [local irreducible] PSub Wp PSpec Le Need Both
attribute [local irreducible] putW atW allW keyP
theorem spec_law (w : Wd) (hs : w.src.sz) (a b c d e f : Int) : PSpec Try.prog 3 [.agg (encWd w), .int a, .int b, .int c, .int d, .int e, .int f] (.bool true) := by
  obtain ⟨t, ht⟩ : ∃ t : Bool, t = true := ⟨_, rfl⟩
  have q0 := sane_spec
  rw [← ht] at q0
  have qf := few_spec w hs
  obtain ⟨g, hg⟩ : ∃ g, g = fewW w := ⟨_, rfl⟩
  rw [← hg] at qf
  by_cases hg1 : g = false
  case pos =>
    rw [hg1] at qf
    refine PSpec.of_vc (fun Γ => more8 false Γ.P Γ.fx) (fun Γ => more8_ok) Try.func3 rfl Try.call3 (by simp) ?_
    rintro ⟨P, N, w0, X, β0, fx, y, hy, pk, df⟩ rfl rfl rfl hoff rfl; change y.on = false at hoff
    skip
    refine .inl ⟨_, q0, ?_⟩
    repeat' ((try conv => whnf); first | refine k5 (fun hb => ?_) fun hb => ?_ | fail)
    · refine .inl ⟨_, qf, ?_⟩
      skip
      exact PSub.refl _
    · subst ht; contradiction
  rw [Bool.not_eq_false] at hg1
  have hw := few_of hs (hg ▸ hg1)
  rw [hg1, ← ht] at qf
  have q1 := atw_spec w hw a b c d e
  have q2 := ratw_spec w hw a b c d e
  have l1 := atW_vals hw a b c d e
  have l2 := atW_len hw a b c d e
  obtain ⟨⟨x, rs, o⟩, hx⟩ : ∃ x, x = atW w a b c d e := ⟨_, rfl⟩
  rw [← hx] at q1 q2 l1 l2
  dsimp only at l1 l2
  have q3 := sameIn_self x (by omega) ht
  have q4 := sameRd_self rs (by omega) ht
  have k1 := Key_spec a b c f
  have k2 := rKey_spec a b c f
  obtain ⟨k, hk⟩ : ∃ k, k = keyP a b c f := ⟨_, rfl⟩
  rw [← hk] at k1 k2
  have k3 := ky_self k ht
  refine PSpec.of_vc (fun Γ => more8 false Γ.P Γ.fx) (fun Γ => more8_ok) Try.func3 rfl Try.call3 (by simp) ?_
  rintro ⟨P, N, w0, X, β0, fx, y, hy, pk, df⟩ rfl rfl rfl hoff rfl; change y.on = false at hoff
  skip
  refine .inl ⟨_, q0, ?_⟩
  repeat' ((try conv => whnf); first | refine k5 (fun hb => ?_) fun hb => ?_ | fail)
  all_goals first
    | (exfalso; subst ht; contradiction)
    | (exfalso; simp_all; done)
    | skip
  refine .inl ⟨_, qf, ?_⟩
  repeat' ((try conv => whnf); first | refine k5 (fun hb => ?_) fun hb => ?_ | fail)
  all_goals first
    | (exfalso; subst ht; contradiction)
    | (exfalso; simp_all; done)
    | skip
  refine .inl ⟨_, q1, ?_⟩
  repeat' ((try conv => whnf); first | refine And.intro rfl ?_ | fail)
  refine .inl ⟨_, q2, ?_⟩
  repeat' ((try conv => whnf); first | refine And.intro rfl ?_ | fail)
  refine .inl ⟨_, q3, ?_⟩
  repeat' ((try conv => whnf); first | refine k6 (fun hb => ?_) fun hb => ?_ | fail)
  all_goals first
    | (exfalso; subst ht; contradiction)
    | (exfalso; simp_all; done)
    | skip
  refine .inl ⟨_, q4, ?_⟩
  repeat' ((try conv => whnf); first | refine k6 (fun hb => ?_) fun hb => ?_ | fail)
  all_goals first
    | (exfalso; subst ht; contradiction)
    | (exfalso; simp_all; done)
    | skip
  refine .inl ⟨_, k1, ?_⟩
  repeat' ((try conv => whnf); first | refine And.intro rfl ?_ | fail)
  refine .inl ⟨_, k2, ?_⟩
  repeat' ((try conv => whnf); first | refine And.intro rfl ?_ | fail)
  refine ⟨_, k3, by first | exact isAg | exact isAp, by first | exact isAg | exact isAp, ?_⟩
  skip
  exact PSub.val_bool ht
theorem all_law (w : Wd) (hs : w.src.sz) (a b c : Int) : PSpec Try.prog 4 [.agg (encWd w), .int a, .int b, .int c] (.bool true) := by
  obtain ⟨t, ht⟩ : ∃ t : Bool, t = true := ⟨_, rfl⟩
  have q0 := sane_spec
  rw [← ht] at q0
  have qf := few_spec w hs
  obtain ⟨g, hg⟩ : ∃ g, g = fewW w := ⟨_, rfl⟩
  rw [← hg] at qf
  by_cases hg1 : g = false
  case pos =>
    rw [hg1] at qf
    refine PSpec.of_vc (fun Γ => more8 false Γ.P Γ.fx) (fun Γ => more8_ok) Try.func4 rfl Try.call4 (by simp) ?_
    rintro ⟨P, N, w0, X, β0, fx, y, hy, pk, df⟩ rfl rfl rfl hoff rfl; change y.on = false at hoff
    skip
    refine .inl ⟨_, q0, ?_⟩
    repeat' ((try conv => whnf); first | refine k5 (fun hb => ?_) fun hb => ?_ | fail)
    · refine .inl ⟨_, qf, ?_⟩
      skip
      exact PSub.refl _
    · subst ht; contradiction
  rw [Bool.not_eq_false] at hg1
  have hw := few_of hs (hg ▸ hg1)
  rw [hg1, ← ht] at qf
  have q1 := all_spec w hw a b c
  have q2 := rall_spec w hw a b c
  have h6 := hw.sc
  have l1 := crIn_vals hw a b c (4 * w.src.schemas.length)
  have l2 := crIn_len w a b c (4 * w.src.schemas.length)
  have l3 := crRd_len hw a b c (4 * w.src.schemas.length)
  have e0 : allW w a b c = (crIn w a b c (4 * w.src.schemas.length), crRd w a b c (4 * w.src.schemas.length)) := by unfold allW; rfl
  rw [e0] at q1 q2
  obtain ⟨x, hx⟩ : ∃ x, x = crIn w a b c (4 * w.src.schemas.length) := ⟨_, rfl⟩
  obtain ⟨rs, hrs⟩ : ∃ x, x = crRd w a b c (4 * w.src.schemas.length) := ⟨_, rfl⟩
  rw [← hx, ← hrs] at q1 q2
  rw [← hx] at l1 l2
  rw [← hrs] at l3
  have q3 := sameIns_self x (fun y hy => by have := l1 y hy; omega) (by omega) ht
  have q4 := sameRd_self rs (by omega) ht
  clear e0 hx hrs
  refine PSpec.of_vc (fun Γ => more8 false Γ.P Γ.fx) (fun Γ => more8_ok) Try.func4 rfl Try.call4 (by simp) ?_
  rintro ⟨P, N, w0, X, β0, fx, y, hy, pk, df⟩ rfl rfl rfl hoff rfl; change y.on = false at hoff
  skip
  refine .inl ⟨_, q0, ?_⟩
  repeat' ((try conv => whnf); first | refine k5 (fun hb => ?_) fun hb => ?_ | fail)
  all_goals first
    | (exfalso; subst ht; contradiction)
    | (exfalso; simp_all; done)
    | skip
  refine .inl ⟨_, qf, ?_⟩
  repeat' ((try conv => whnf); first | refine k5 (fun hb => ?_) fun hb => ?_ | fail)
  all_goals first
    | (exfalso; subst ht; contradiction)
    | (exfalso; simp_all; done)
    | skip
  refine .inl ⟨_, q1, ?_⟩
  repeat' ((try conv => whnf); first | refine And.intro rfl ?_ | fail)
  refine .inl ⟨_, q2, ?_⟩
  repeat' ((try conv => whnf); first | refine And.intro rfl ?_ | fail)
  refine .inl ⟨_, q3, ?_⟩
  repeat' ((try conv => whnf); first | refine k6 (fun hb => ?_) fun hb => ?_ | fail)
  all_goals first
    | (exfalso; subst ht; contradiction)
    | (exfalso; simp_all; done)
    | skip
  refine .inl ⟨_, q4, ?_⟩
  skip
  exact PSub.val_bool ht
theorem put_law (w : Wd) (hs : w.src.sz) (ho : w.order.length ≤ 140737488355328) (x : In) (v : Sp) (c : Int) : PSpec Try.prog 5 [.agg (encWd w), .agg (encIn x), .agg (encSp v), .int c] (.bool true) := by
  obtain ⟨t, ht⟩ : ∃ t : Bool, t = true := ⟨_, rfl⟩
  have q0 := sane_spec
  rw [← ht] at q0
  have qf := few_spec w hs
  obtain ⟨g, hg⟩ : ∃ g, g = fewW w := ⟨_, rfl⟩
  rw [← hg] at qf
  by_cases hg1 : g = false
  case pos =>
    rw [hg1] at qf
    refine PSpec.of_vc (fun Γ => more8 false Γ.P Γ.fx) (fun Γ => more8_ok) Try.func5 rfl Try.call5 (by simp) ?_
    rintro ⟨P, N, w0, X, β0, fx, y, hy, pk, df⟩ rfl rfl rfl hoff rfl; change y.on = false at hoff
    skip
    refine .inl ⟨_, q0, ?_⟩
    repeat' ((try conv => whnf); first | refine k5 (fun hb => ?_) fun hb => ?_ | fail)
    · refine .inl ⟨_, qf, ?_⟩
      skip
      exact PSub.refl _
    · subst ht; contradiction
  rw [Bool.not_eq_false] at hg1
  have hw := few_of hs (hg ▸ hg1)
  rw [hg1, ← ht] at qf
  by_cases h30 : x.values.length ≤ 30
  case neg =>
    have hvl : (x.values.map fun x => [PV.int x]).length = x.values.length := List.length_map ..
    refine PSpec.of_vc (fun Γ => more8 false Γ.P Γ.fx) (fun Γ => more8_ok) Try.func5 rfl Try.call5 (by simp) ?_
    rintro ⟨P, N, w0, X, β0, fx, y, hy, pk, df⟩ rfl rfl rfl hoff rfl; change y.on = false at hoff
    skip
    refine .inl ⟨_, q0, ?_⟩
    repeat' ((try conv => whnf); first | refine k5 (fun hb => ?_) fun hb => ?_ | fail)
    all_goals first
      | (exfalso; subst ht; contradiction)
      | (exfalso; simp_all; done)
      | skip
    refine .inl ⟨_, qf, ?_⟩
    repeat' ((try conv => whnf); first | (first | refine k3 (fun hb => ?_) fun hb => ?_ | refine k4 (fun hb => ?_) fun hb => ?_) <;> (try rw [List.length_map] at hb) <;> (try (exfalso; omega; done)) | refine k5 (fun hb => ?_) fun hb => ?_ | fail)
    all_goals first
      | exact PSub.refl _
      | (exfalso; subst ht; contradiction)
  have q1 := put_spec w hw x h30 v c
  have q2 := rput_spec w hw x h30 v c
  obtain ⟨l1, l2, l3⟩ := putW_ok hw ho x h30 v c
  obtain ⟨⟨y, e⟩, hy⟩ : ∃ y, y = putW w x v c := ⟨_, rfl⟩
  rw [← hy] at q1 q2 l1 l2 l3
  dsimp only at l1 l2 l3
  have q3 := sameWd_self y l1 l2 (by omega) ht
  have hvl : (x.values.map fun x => [PV.int x]).length = x.values.length := List.length_map ..
  refine PSpec.of_vc (fun Γ => more8 false Γ.P Γ.fx) (fun Γ => more8_ok) Try.func5 rfl Try.call5 (by simp) ?_
  rintro ⟨P, N, w0, X, β0, fx, y, hy, pk, df⟩ rfl rfl rfl hoff rfl; change y.on = false at hoff
  skip
  refine .inl ⟨_, q0, ?_⟩
  repeat' ((try conv => whnf); first | refine k5 (fun hb => ?_) fun hb => ?_ | fail)
  all_goals first
    | (exfalso; subst ht; contradiction)
    | (exfalso; simp_all; done)
    | skip
  refine .inl ⟨_, qf, ?_⟩
  repeat' ((try conv => whnf); first | (first | refine k3 (fun hb => ?_) fun hb => ?_ | refine k4 (fun hb => ?_) fun hb => ?_) <;> (try rw [List.length_map] at hb) <;> (try (exfalso; omega; done)) | refine k5 (fun hb => ?_) fun hb => ?_ | fail)
  all_goals first
    | (exfalso; subst ht; contradiction)
    | (exfalso; simp_all; done)
    | skip
  refine .inl ⟨_, q1, ?_⟩
  repeat' ((try conv => whnf); first | refine And.intro rfl ?_ | fail)
  refine .inl ⟨_, q2, ?_⟩
  repeat' ((try conv => whnf); first | refine And.intro rfl ?_ | fail)
  refine .inl ⟨_, q3, ?_⟩
  repeat' ((try conv => whnf); first | refine k6 (fun hb => ?_) fun hb => ?_ | fail)
  all_goals first
    | (exfalso; subst ht; contradiction)
    | (exfalso; simp_all; done)
    | skip
  exact PSub.val_bool (by simp)
end Go.Proofs.Ytmaggokcjcdllaa
/- Records: the law RecordsPast. Conditions: none. -/
namespace Go.Proofs.Ytmaggokcjcdllaa
open Go.Avc
theorem abt_upto (l : List Fa) (k : Ky) (kn : Int) : abtF (uptoF l kn) k kn = abtF l k kn := by
  unfold abtF uptoF
  rw [List.filter_filter]
  congr 1
  funext f
  unfold abt
  by_cases h : f.known ≤ kn <;> simp [h]
theorem at_upto (l : List Fa) (k : Ky) (day kn : Int) : atF (uptoF l kn) k day kn = atF l k day kn := by
  unfold atF bestF
  rw [abt_upto]
def uptoW (w : Wd) (kn : Int) : Wd := ⟨w.src, w.order, uptoF w.facts kn⟩
theorem look_upto (w : Wd) (s p i d kn : Int) : lookW (uptoW w kn) s p i d kn = lookW w s p i d kn := by
  funext n
  unfold lookW uptoW
  simp only [at_upto]
theorem atW_upto (w : Wd) (s p i d kn : Int) : atW (uptoW w kn) s p i d kn = atW w s p i d kn := by
  have e1 : ∀ a b c e, askOK (uptoW w kn) a b c e ↔ askOK w a b c e := fun a b c e => Iff.rfl
  unfold atW
  simp only [look_upto, e1]
  rfl
theorem all_upto (w : Wd) (p d kn : Int) : allW (uptoW w kn) p d kn = allW w p d kn := by
  have e1 : crW (uptoW w kn) p d kn = crW w p d kn := by funext n; unfold crW; rw [atW_upto]
  unfold allW crIn crRd
  rw [e1]
  rfl
theorem upto_few {w : Wd} (hw : w.few) (kn : Int) : (uptoW w kn).few := ⟨hw.sz, Nat.le_trans (upto_len _ _) hw.fa, hw.sc, hw.fd⟩
set_option maxRecDepth 20000
set_option maxHeartbeats 4000000
set_option linter.unusedSimpArgs false
attribute [local irreducible] PSub Wp PSpec Le Need Both
attribute [local irreducible] putW atW allW keyP uptoF
theorem past_law (w : Wd) (hs : w.src.sz) (a b c d e : Int) : PSpec Try.prog 8 [.agg (encWd w), .int a, .int b, .int c, .int d, .int e] (.bool true) := by
  obtain ⟨t, ht⟩ : ∃ t : Bool, t = true := ⟨_, rfl⟩
  have q0 := sane_spec
  rw [← ht] at q0
  have qf := few_spec w hs
  obtain ⟨g, hg⟩ : ∃ g, g = fewW w := ⟨_, rfl⟩
  rw [← hg] at qf
  by_cases hg1 : g = false
  case pos =>
    rw [hg1] at qf
    refine PSpec.of_vc (fun Γ => more8 false Γ.P Γ.fx) (fun Γ => more8_ok) Try.func8 rfl Try.call8 (by simp) ?_
    rintro ⟨P, N, w0, X, β0, fx, y, hy, pk, df⟩ rfl rfl rfl hoff rfl; change y.on = false at hoff
    skip
    refine .inl ⟨_, q0, ?_⟩
    repeat' ((try conv => whnf); first | refine k5 (fun hb => ?_) fun hb => ?_ | fail)
    · refine .inl ⟨_, qf, ?_⟩
      skip
      exact PSub.refl _
    · subst ht; contradiction
  rw [Bool.not_eq_false] at hg1
  have hw := few_of hs (hg ▸ hg1)
  rw [hg1, ← ht] at qf
  have h60 := hw.fa
  have qu := upto_spec w.facts e (by omega)
  have q1 := atw_spec w hw a b c d e
  have q2 := atw_spec (uptoW w e) (upto_few hw e) a b c d e
  rw [atW_upto] at q2
  have l1 := atW_vals hw a b c d e
  have l2 := atW_len hw a b c d e
  obtain ⟨⟨x, rs, o⟩, hx⟩ : ∃ x, x = atW w a b c d e := ⟨_, rfl⟩
  rw [← hx] at q1 q2 l1 l2
  dsimp only at l1 l2
  have q3 := sameIn_self x (by omega) ht
  have q4 := sameRd_self rs (by omega) ht
  have q5 := all_spec w hw b d e
  have q6 := all_spec (uptoW w e) (upto_few hw e) b d e
  rw [all_upto] at q6
  have h6 := hw.sc
  have m1 := crIn_vals hw b d e (4 * w.src.schemas.length)
  have m2 := crIn_len w b d e (4 * w.src.schemas.length)
  have m3 := crRd_len hw b d e (4 * w.src.schemas.length)
  have e0 : allW w b d e = (crIn w b d e (4 * w.src.schemas.length), crRd w b d e (4 * w.src.schemas.length)) := by unfold allW; rfl
  rw [e0] at q5 q6
  obtain ⟨y, hy⟩ : ∃ x, x = crIn w b d e (4 * w.src.schemas.length) := ⟨_, rfl⟩
  obtain ⟨rt, hrt⟩ : ∃ x, x = crRd w b d e (4 * w.src.schemas.length) := ⟨_, rfl⟩
  rw [← hy, ← hrt] at q5 q6
  rw [← hy] at m1 m2
  rw [← hrt] at m3
  have q7 := sameIns_self y (fun z hz => by have := m1 z hz; omega) (by omega) ht
  have q8 := sameRd_self rt (by omega) ht
  clear e0 hy hrt
  refine PSpec.of_vc (fun Γ => more8 false Γ.P Γ.fx) (fun Γ => more8_ok) Try.func8 rfl Try.call8 (by simp) ?_
  rintro ⟨P, N, w0, X, β0, fx, y, hy, pk, df⟩ rfl rfl rfl hoff rfl; change y.on = false at hoff
  skip
  refine .inl ⟨_, q0, ?_⟩
  repeat' ((try conv => whnf); first | refine k5 (fun hb => ?_) fun hb => ?_ | fail)
  all_goals first
    | (exfalso; subst ht; contradiction)
    | (exfalso; simp_all; done)
    | skip
  refine .inl ⟨_, qf, ?_⟩
  repeat' ((try conv => whnf); first | refine k5 (fun hb => ?_) fun hb => ?_ | fail)
  all_goals first
    | (exfalso; subst ht; contradiction)
    | (exfalso; simp_all; done)
    | skip
  refine Wp.draw (more := more8 true _ _) more8_det more8_ok FOK.wide rfl (by decide +kernel) (by conv => lhs; reduce) ?_
  skip
  refine ⟨_, qu, ?_⟩
  repeat' ((try conv => whnf); first | refine And.intro rfl ?_ | fail)
  refine .inl ⟨_, q1, ?_⟩
  repeat' ((try conv => whnf); first | refine And.intro rfl ?_ | fail)
  refine .inl ⟨_, q2, ?_⟩
  repeat' ((try conv => whnf); first | refine And.intro rfl ?_ | fail)
  refine .inl ⟨_, q5, ?_⟩
  repeat' ((try conv => whnf); first | refine And.intro rfl ?_ | fail)
  refine .inl ⟨_, q6, ?_⟩
  repeat' ((try conv => whnf); first | refine k2 (fun hb => ?_) fun hb => ?_ | refine And.intro rfl ?_ | fail)
  all_goals first
    | (exfalso; subst ht; contradiction)
    | (exfalso; simp_all; done)
    | skip
  refine .inl ⟨_, q3, ?_⟩
  repeat' ((try conv => whnf); first | refine k6 (fun hb => ?_) fun hb => ?_ | fail)
  all_goals first
    | (exfalso; subst ht; contradiction)
    | (exfalso; simp_all; done)
    | skip
  refine .inl ⟨_, q4, ?_⟩
  repeat' ((try conv => whnf); first | refine k6 (fun hb => ?_) fun hb => ?_ | fail)
  all_goals first
    | (exfalso; subst ht; contradiction)
    | (exfalso; simp_all; done)
    | skip
  refine .inl ⟨_, q7, ?_⟩
  repeat' ((try conv => whnf); first | refine k6 (fun hb => ?_) fun hb => ?_ | fail)
  all_goals first
    | (exfalso; subst ht; contradiction)
    | (exfalso; simp_all; done)
    | skip
  refine .inl ⟨_, q8, ?_⟩
  skip
  exact PSub.val_bool ht
end Go.Proofs.Ytmaggokcjcdllaa
