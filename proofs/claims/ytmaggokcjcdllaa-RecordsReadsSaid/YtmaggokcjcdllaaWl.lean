/- Records: the chapter's examples. Conditions: none. -/
import Derived.Test.YtmaggokcjcdllaaWd
import Derived.Test.YtmaggokcjcdllaaWj
import Derived.Test.YtmaggokcjcdllaaWk
import Derived.Test.YtmaggokcjcdllaaWe
set_option linter.unusedSimpArgs false
set_option linter.unusedVariables false
namespace Go.Proofs.Ytmaggokcjcdllaa
open Go.Avc
def bSelf : Bs := ⟨#[115, 101, 108, 102]⟩
def fSelf : Fd := ⟨bSelf, ⟨3, 0, 4095, ⟨#[]⟩, -1, []⟩, 0, 0, 0, 0⟩
def fNum : Fd := ⟨⟨#[110]⟩, ⟨1, 0, 9, ⟨#[]⟩, -1, []⟩, 0, 0, 0, 0⟩
def fMo : Fd := ⟨⟨#[109]⟩, ⟨3, 0, 4095, ⟨#[]⟩, -1, []⟩, 0, 0, 0, 0⟩
def smpS : Src := ⟨[⟨#[105]⟩], [], [⟨⟨#[97]⟩, ⟨#[105]⟩, 0, 1, [fSelf, fNum, fMo], []⟩, ⟨⟨#[98]⟩, ⟨#[105]⟩, 0, 1, [fSelf, fNum], []⟩], [⟨⟨#[98]⟩, 1, [], [], []⟩], [], []⟩
def smpW : Wd := ⟨smpS, [], []⟩
def smpX : In := ⟨0, 7, 1, [7, 5, 8]⟩
def smpY : Wd := ⟨smpS, [], [⟨⟨0, 7, 17⟩, 5, 3, 5, 10, 0⟩, ⟨⟨0, 7, 18⟩, 8, 3, 5, 10, 1⟩]⟩
theorem smp_sz : smpS.sz := by
  refine ⟨by decide, by decide, by decide, by decide, by decide, by decide, ?_, ?_, ?_, ?_⟩
  · intro c hc
    simp only [smpS, List.mem_cons, List.not_mem_nil, or_false] at hc
    rcases hc with rfl | rfl
    · refine ⟨by decide, by decide, ?_, ?_⟩
      · intro x hx
        simp only [List.mem_cons, List.not_mem_nil, or_false] at hx
        rcases hx with rfl | rfl | rfl <;> decide
      · intro x hx; cases hx
    · refine ⟨by decide, by decide, ?_, ?_⟩
      · intro x hx
        simp only [List.mem_cons, List.not_mem_nil, or_false] at hx
        rcases hx with rfl | rfl <;> decide
      · intro x hx; cases hx
  · intro c hc
    simp only [smpS, List.mem_cons, List.not_mem_nil, or_false] at hc
    subst hc
    exact ⟨by decide, by decide, by decide⟩
  · intro c hc; cases hc
  · intro c hc; cases hc
theorem smpW_few : smpW.few := ⟨smp_sz, by decide, by decide, by
  intro c hc
  simp only [smpW, smpS, List.mem_cons, List.not_mem_nil, or_false] at hc
  rcases hc with rfl | rfl <;> decide⟩
theorem smpY_few : smpY.few := ⟨smp_sz, by decide, by decide, smpW_few.fd⟩
theorem e1 : putW smpW smpX ⟨3, 5⟩ 10 = (smpY, 0) := by kernel_rfl
theorem e2 : atW smpY 0 7 1 4 10 = (smpX, [⟨⟨0, 7, 17⟩, 4, 5⟩, ⟨⟨0, 7, 18⟩, 4, 5⟩], true) := by kernel_rfl
theorem e3 : atW smpY 0 7 1 5 10 = (zeroIn, [⟨⟨0, 7, 17⟩, 5, 6⟩], false) := by kernel_rfl
theorem e4 : atW smpY 0 7 1 4 9 = (zeroIn, [⟨⟨0, 7, 17⟩, 4, 5⟩], false) := by kernel_rfl
theorem e5 : atW smpY 1 7 0 4 10 = (zeroIn, [], false) := by kernel_rfl
theorem e6 : allW smpY 7 3 99 = ([smpX], [⟨⟨0, 7, 1⟩, 3, 4⟩, ⟨⟨0, 7, 17⟩, 3, 4⟩, ⟨⟨0, 7, 18⟩, 3, 4⟩, ⟨⟨0, 7, 33⟩, 3, 4⟩, ⟨⟨0, 7, 49⟩, 3, 4⟩]) := by kernel_rfl
theorem e7 : putW smpW ⟨0, 7, 1, [7, 10, 8]⟩ ⟨3, 5⟩ 10 = (zeroWd, 170) := by kernel_rfl
theorem e8 : putW smpW ⟨1, 0, 0, [0, 1]⟩ ⟨3, 5⟩ 10 = (zeroWd, 170) := by kernel_rfl
theorem e9 : putW smpY smpX ⟨3, 5⟩ 9 = (zeroWd, 41) := by kernel_rfl
set_option maxRecDepth 20000
set_option maxHeartbeats 4000000
set_option linter.unusedSimpArgs false
attribute [local irreducible] PSub Wp PSpec Le Need Both
attribute [local irreducible] putW atW allW
theorem sample_spec : PSpec Try.prog 29 [] (.agg (encWd smpW)) := by
  refine PSpec.of_vc (fun Γ => more8 false Γ.P Γ.fx) (fun Γ => more8_ok) Try.func29 rfl Try.call29 (by simp) ?_
  rintro ⟨P, N, w0, X, β0, fx, y, hy, pk, df⟩ rfl rfl rfl hoff rfl; change y.on = false at hoff
  repeat' ((try conv => whnf); first | refine And.intro rfl ?_ | refine And.intro bd ?_ | fail)
  repeat' (first | exact trivial | exact PSub.nil _ | exact PSub.refl _ | refine PSub.agg ?_ | refine PSub.sl ?_ | refine And.intro ?_ ?_)
theorem sane_spec : PSpec Try.prog 10 [] (.bool true) := by
  have p1 := put_spec smpW smpW_few smpX (by decide) ⟨3, 5⟩ 10
  have p7 := put_spec smpW smpW_few ⟨0, 7, 1, [7, 10, 8]⟩ (by decide) ⟨3, 5⟩ 10
  have p8 := put_spec smpW smpW_few ⟨1, 0, 0, [0, 1]⟩ (by decide) ⟨3, 5⟩ 10
  have p9 := put_spec smpY smpY_few smpX (by decide) ⟨3, 5⟩ 9
  have p2 := atw_spec smpY smpY_few 0 7 1 4 10
  have p3 := atw_spec smpY smpY_few 0 7 1 5 10
  have p4 := atw_spec smpY smpY_few 0 7 1 4 9
  have p5 := atw_spec smpY smpY_few 1 7 0 4 10
  have p6 := all_spec smpY smpY_few 7 3 99
  have k1 := Key_spec 0 7 1 2
  have k2 := Key_spec 0 4096 0 0
  have q1 := kyEq ⟨0, 7, 18⟩ ⟨0, 7, 18⟩
  have q2 := kyEq ⟨0, 0, 0⟩ ⟨0, 0, 0⟩
  rw [show keyP 0 7 1 2 = ⟨0, 7, 18⟩ by decide +kernel] at k1
  rw [show keyP 0 4096 0 0 = ⟨0, 0, 0⟩ by decide +kernel] at k2
  rw [decide_eq_true rfl] at q1 q2
  have s1 := sameIn_spec smpX smpX (by decide) (by decide)
  rw [decide_eq_true rfl] at s1
  rw [e1] at p1; rw [e2] at p2; rw [e3] at p3; rw [e4] at p4; rw [e5] at p5; rw [e6] at p6; rw [e7] at p7; rw [e8] at p8; rw [e9] at p9
  refine PSpec.of_vc (fun Γ => more8 false Γ.P Γ.fx) (fun Γ => more8_ok) Try.func10 rfl Try.call10 (by simp) ?_
  rintro ⟨P, N, w0, X, β0, fx, y, hy, pk, df⟩ rfl rfl rfl hoff rfl; change y.on = false at hoff
  skip
  refine .inl ⟨_, sample_spec, ?_⟩
  repeat' ((try conv => whnf); first | refine And.intro rfl ?_ | refine And.intro bd ?_ | fail)
  refine .inl ⟨_, p1, ?_⟩
  repeat' ((try conv => whnf); first | refine And.intro rfl ?_ | fail)
  refine .inl ⟨_, p2, ?_⟩
  repeat' ((try conv => whnf); first | refine And.intro rfl ?_ | fail)
  refine .inl ⟨_, p3, ?_⟩
  repeat' ((try conv => whnf); first | refine And.intro rfl ?_ | fail)
  refine .inl ⟨_, p4, ?_⟩
  repeat' ((try conv => whnf); first | refine And.intro rfl ?_ | fail)
  refine .inl ⟨_, p5, ?_⟩
  repeat' ((try conv => whnf); first | refine And.intro rfl ?_ | fail)
  refine .inl ⟨_, p6, ?_⟩
  repeat' ((try conv => whnf); first | refine And.intro rfl ?_ | refine And.intro bd ?_ | fail)
  refine .inl ⟨_, p7, ?_⟩
  repeat' ((try conv => whnf); first | refine And.intro rfl ?_ | refine And.intro bd ?_ | fail)
  refine .inl ⟨_, p8, ?_⟩
  repeat' ((try conv => whnf); first | refine And.intro rfl ?_ | fail)
  refine .inl ⟨_, p9, ?_⟩
  repeat' ((try conv => whnf); first | refine And.intro rfl ?_ | fail)
  refine Wp.draw (more := more8 true _ _) more8_det more8_ok FOK.wide rfl (by decide +kernel) (by conv => lhs; reduce) ?_
  skip
  refine ⟨_, s1, ?_⟩
  repeat' ((try conv => whnf); first | refine s5 nm nm ?_ | fail)
  refine ⟨_, s1, ?_⟩
  repeat' ((try conv => whnf); first | refine And.intro bd ?_ | fail)
  refine ⟨_, rfl, ?_⟩
  repeat' ((try conv => whnf); first | refine And.intro bd ?_ | fail)
  refine ⟨_, rfl, ?_⟩
  skip
  refine ⟨_, k1, ?_⟩
  repeat' ((try conv => whnf); first | refine And.intro rfl ?_ | fail)
  refine ⟨_, q1, by first | exact isAg | exact isAp, by first | exact isAg | exact isAp, ?_⟩
  skip
  refine ⟨_, k1, ?_⟩
  repeat' ((try conv => whnf); first | refine And.intro rfl ?_ | fail)
  refine ⟨_, q1, by first | exact isAg | exact isAp, by first | exact isAg | exact isAp, ?_⟩
  skip
  refine ⟨_, k2, ?_⟩
  repeat' ((try conv => whnf); first | refine And.intro rfl ?_ | fail)
  refine ⟨_, q2, by first | exact isAg | exact isAp, by first | exact isAg | exact isAp, ?_⟩
  skip
  exact PSub.refl _
end Go.Proofs.Ytmaggokcjcdllaa
/- Records: the laws RecordsSpec, RecordsAllSpec, RecordsPutSpec. Conditions: none. -/
namespace Go.Proofs.Ytmaggokcjcdllaa
open Go.Avc
theorem sameIn_self (x : In) (h : x.values.length ≤ 140737488355328) {t : Bool} (ht : t = true) : PSpec Try.prog 14 [.agg (encIn x), .agg (encIn x)] (.bool t) := by
  have q := sameIn_spec x x h h
  rwa [decide_eq_true rfl, ← ht] at q
theorem sameIns_self (x : List In) (h : ∀ a ∈ x, a.values.length ≤ 140737488355328) (hl : x.length ≤ 140737488355328) {t : Bool} (ht : t = true) : PSpec Try.prog 20 [.sl 4 (x.map encIn), .sl 4 (x.map encIn)] (.bool t) := by
  have q := sameIns_spec x x h h hl hl
  rwa [decide_eq_true rfl, ← ht] at q
theorem sameRd_self (x : List Rd) (hl : x.length ≤ 1000000) {t : Bool} (ht : t = true) : PSpec Try.prog 15 [encRds x, encRds x] (.bool t) := by
  have q := sameR_spec x x hl hl
  rwa [decide_eq_true rfl, ← ht] at q
theorem atW_vals {w : Wd} (hw : w.few) (schema person item day kn : Int) : (atW w schema person item day kn).1.values.length ≤ 6 := by
  have h5 := nF_le hw schema
  unfold atW
  split
  · split
    · simp; omega
    · simp [zeroIn]
  · simp [zeroIn]
theorem crIn_vals {w : Wd} (hw : w.few) (person day kn : Int) (n : Nat) : ∀ x ∈ crIn w person day kn n, x.values.length ≤ 6 := by
  intro x hx
  unfold crIn at hx
  rw [List.mem_flatMap] at hx
  obtain ⟨i, _, hx⟩ := hx
  split at hx
  · rw [List.mem_singleton] at hx
    subst hx
    exact atW_vals hw ..
  · cases hx
set_option maxRecDepth 20000
set_option maxHeartbeats 4000000
set_option linter.unusedSimpArgs false
attribute [local irreducible] PSub Wp PSpec Le Need Both
attribute [local irreducible] putW atW allW keyP
end Go.Proofs.Ytmaggokcjcdllaa
