/- Records: all credentials. Conditions: none. -/
import Derived.Test.YtmaggokcjcdllaaWd
import Derived.Test.YtmaggokcjcdllaaWi
set_option linter.unusedSimpArgs false
set_option linter.unusedVariables false
namespace Go.Proofs.Ytmaggokcjcdllaa
open Go.Avc
/-- What is asked for the n-th pair of a schema and an item. -/
def crW (w : Wd) (person day kn : Int) (n : Nat) : In × List Rd × Bool := atW w ((n / 4 : Nat) : Int) person ((n % 4 : Nat) : Int) day kn
def crRow (x : In × List Rd × Bool) : List PV := [if x.2.2 = true then .ptr (encIn x.1) else .val (.pointer none), encRds x.2.1]
def crRows (w : Wd) (person day kn : Int) : List (List PV) := (List.range (4 * w.src.schemas.length)).map fun n => crRow (crW w person day kn n)
def crIn (w : Wd) (person day kn : Int) (n : Nat) : List In := (List.range n).flatMap fun i => if (crW w person day kn i).2.2 = true then [(crW w person day kn i).1] else []
def crRd (w : Wd) (person day kn : Int) (n : Nat) : List Rd := (List.range n).flatMap fun i => (crW w person day kn i).2.1
def allW (w : Wd) (person day kn : Int) : List In × List Rd := (crIn w person day kn (4 * w.src.schemas.length), crRd w person day kn (4 * w.src.schemas.length))
theorem crIn_succ (w : Wd) (person day kn : Int) (n : Nat) : crIn w person day kn (n + 1) = crIn w person day kn n ++ (if (crW w person day kn n).2.2 = true then [(crW w person day kn n).1] else []) := by
  unfold crIn; rw [List.range_succ, List.flatMap_append]; simp
theorem crRd_succ (w : Wd) (person day kn : Int) (n : Nat) : crRd w person day kn (n + 1) = crRd w person day kn n ++ (crW w person day kn n).2.1 := by
  unfold crRd; rw [List.range_succ, List.flatMap_append]; simp
theorem crRow_at {w : Wd} {person day kn : Int} {i j : Nat} (hi : i < w.src.schemas.length) (hj : j < 4) : (crRows w person day kn)[4 * i + j]? = some (crRow (atW w i person j day kn)) := by
  unfold crRows
  rw [List.getElem?_map, List.getElem?_range (by omega)]
  simp only [Option.map_some, crW]
  rw [show (4 * i + j) / 4 = i by omega, show (4 * i + j) % 4 = j by omega]
theorem goodN_le (look : Nat → Int × Bool) (n : Nat) : goodN look n ≤ n := by
  unfold goodN; exact Nat.le_trans List.findIdx_le_length (by simp)
theorem nF_le {w : Wd} (hw : w.few) (a : Int) : nF w.src a ≤ 5 := by
  unfold nF
  split
  · rename_i c hc
    have := hw.fd c (List.mem_of_getElem? hc)
    omega
  · omega
theorem atW_len {w : Wd} (hw : w.few) (schema person item day kn : Int) : (atW w schema person item day kn).2.1.length ≤ 6 := by
  have h5 := nF_le hw schema
  have hg := goodN_le (lookW w schema person item day kn) (nF w.src schema)
  unfold atW
  split
  · split
    · simp; omega
    · simp; omega
  · simp
theorem crRd_len {w : Wd} (hw : w.few) (person day kn : Int) (n : Nat) : (crRd w person day kn n).length ≤ 6 * n := by
  induction n with
  | zero => simp [crRd]
  | succ n ih =>
    rw [crRd_succ, List.length_append]
    have := atW_len hw ((n / 4 : Nat) : Int) person ((n % 4 : Nat) : Int) day kn
    unfold crW
    omega
theorem crIn_len (w : Wd) (person day kn : Int) (n : Nat) : (crIn w person day kn n).length ≤ n := by
  induction n with
  | zero => simp [crIn]
  | succ n ih =>
    rw [crIn_succ, List.length_append]
    split <;> simp <;> omega
def encIRs (x : List In × List Rd) : PV := .tup [.sl 4 (x.1.map encIn), encRds x.2]
set_option maxRecDepth 20000
set_option maxHeartbeats 4000000
set_option linter.unusedSimpArgs false
attribute [local irreducible] PSub Wp PSpec Le Need Both
attribute [local irreducible] atF valOK recOK atW
theorem creds_spec (w : Wd) (person day kn : Int) : PSpec Try.prog 41 [.agg (encWd w), .int person, .int day, .int kn] (.fn 63 [.ptr (encWd w), .ptr [.int person], .ptr [.int day], .ptr [.int kn]]) := by
  refine PSpec.of_vc (fun Γ => more8 false Γ.P Γ.fx) (fun Γ => more8_ok) Try.func41 rfl Try.call41 (by simp) ?_
  rintro ⟨P, N, w0, X, β0, fx, y, hy, pk, df⟩ rfl rfl rfl hoff rfl; change y.on = false at hoff
  skip
  exact PSub.refl _
theorem creds1_spec (w : Wd) (hw : w.few) (person day kn : Int) : ISpec Try.prog 63 [.ptr (encWd w), .ptr [.int person], .ptr [.int day], .ptr [.int kn]] (crRows w person day kn) := by
  have hlen : (crRows w person day kn).length = 4 * w.src.schemas.length := by simp [crRows]
  have h6 := hw.sc
  have hsl : (w.src.schemas.map encSc).length = w.src.schemas.length := List.length_map ..
  refine ISpec.of_vc (fun Γ => more8 false Γ.P Γ.fx) (fun Γ => more8_ok) Try.func63 rfl Try.call63 (Nat.le_of_ble_eq_true rfl) rfl ?_
  rintro ⟨P, N, w0, X, β0, fx, y, hy, pk, df⟩ rfl rfl rfl rfl hon hxs
  dsimp only at hon hxs
  skip
  refine Wp.loop (fun i : Nat => ⟨[(0, .pure (.val (.func (.yield y.l) #[] #[]))), (1, .pure (.ptr (encWd w))), (2, .pure (.ptr [.int person])), (3, .pure (.ptr [.int day])), (4, .pure (.ptr [.int kn])), (16, .int w.src.schemas.length), (17, .int i), (43, .gh (4 * i) false)], [], []⟩) (fun i => i ≤ w.src.schemas.length) (fun i => w.src.schemas.length - i) 0 (Le.of ?_ ?_ rfl rfl rfl) (by omega) ?_
  · (repeat' (first | exact trivial | refine And.intro ?_ ?_ | exact Or.inl rfl | exact l1 bd | fail))
  · (repeat' (first | exact trivial | fail))
  intro i hi
  by_cases hi2 : i < w.src.schemas.length
  · refine code_sound (more := more8 false _ _) more8_ok FOK.wide _ ?_
    repeat' ((try conv => whnf); first | (first | refine k3 (fun hb => ?_) fun hb => ?_ | refine k4 (fun hb => ?_) fun hb => ?_) <;> (try rw [List.length_map] at hb) <;> (try (exfalso; omega; done)) | fail)
    refine Wp.loop (fun j : Nat => ⟨[(0, .pure (.val (.func (.yield y.l) #[] #[]))), (1, .pure (.ptr (encWd w))), (2, .pure (.ptr [.int person])), (3, .pure (.ptr [.int day])), (4, .pure (.ptr [.int kn])), (6, .int i), (16, .int w.src.schemas.length), (17, .int i), (20, .int j), (43, .gh (4 * i + j) false)], [], []⟩) (fun j => j ≤ 4) (fun j => 4 - j) 0 (Le.of ?_ ?_ rfl rfl rfl) (by omega) ?_
    · (repeat' (first | exact trivial | refine And.intro ?_ ?_ | exact Or.inl rfl | fail))
    · (repeat' (first | exact trivial | fail))
    intro j hj
    by_cases hj2 : j < 4
    · have q := atw_spec w hw i person j day kn
      have hrow := crRow_at (w := w) (person := person) (day := day) (kn := kn) hi2 hj2
      obtain ⟨⟨x, rs, b⟩, hx⟩ : ∃ x, x = atW w i person j day kn := ⟨_, rfl⟩
      rw [← hx] at q hrow
      cases b with
      | false =>
        refine code_sound (more := more8 false _ _) more8_ok FOK.wide _ ?_
        repeat' ((try conv => whnf); first | (first | refine k3 (fun hb => ?_) fun hb => ?_ | refine k4 (fun hb => ?_) fun hb => ?_) <;> (try rw [List.length_map] at hb) <;> (try (exfalso; omega; done)) | fail)
        refine .inl ⟨_, q, ?_⟩
        repeat' ((try conv => whnf); first | refine And.intro rfl ?_ | refine And.intro bd ?_ | fail)
        refine needY (i := 4 * i + j) hxs hrow ⟨PSub.refl _, PSub.refl _, trivial⟩ ?_
        repeat' ((try conv => whnf); first | refine Both.intro ?_ ?_ | refine s4 nm ?_ | fail)
        · exact ⟨j + 1, Le.of (by (repeat' (first | exact trivial | refine And.intro ?_ ?_ | exact Or.inl rfl | fail))) (by (repeat' (first | exact trivial | fail))) rfl rfl rfl, by omega, by omega⟩
        · exact ⟨4 * i + j + 1, true, rfl, by simp⟩
      | true =>
        refine code_sound (more := more8 false _ _) more8_ok FOK.wide _ ?_
        repeat' ((try conv => whnf); first | (first | refine k3 (fun hb => ?_) fun hb => ?_ | refine k4 (fun hb => ?_) fun hb => ?_) <;> (try rw [List.length_map] at hb) <;> (try (exfalso; omega; done)) | fail)
        refine .inl ⟨_, q, ?_⟩
        repeat' ((try conv => whnf); first | refine And.intro rfl ?_ | refine And.intro bd ?_ | fail)
        refine needY (i := 4 * i + j) hxs hrow ⟨PSub.refl _, PSub.refl _, trivial⟩ ?_
        repeat' ((try conv => whnf); first | refine Both.intro ?_ ?_ | refine s4 nm ?_ | fail)
        · exact ⟨j + 1, Le.of (by (repeat' (first | exact trivial | refine And.intro ?_ ?_ | exact Or.inl rfl | fail))) (by (repeat' (first | exact trivial | fail))) rfl rfl rfl, by omega, by omega⟩
        · exact ⟨4 * i + j + 1, true, rfl, by simp⟩
    · have e : j = 4 := by omega
      subst e
      refine code_sound (more := more8 false _ _) more8_ok FOK.wide _ ?_
      repeat' ((try conv => whnf); first | refine s4 nm ?_ | fail)
      exact ⟨i + 1, Le.of (by (repeat' (first | exact trivial | refine And.intro ?_ ?_ | exact Or.inl rfl | fail))) (by (repeat' (first | exact trivial | fail))) rfl rfl rfl, by omega, by omega⟩
  · refine code_sound (more := more8 false _ _) more8_ok FOK.wide _ ?_
    repeat' ((try conv => whnf); first | (first | refine k3 (fun hb => ?_) fun hb => ?_ | refine k4 (fun hb => ?_) fun hb => ?_) <;> (try rw [List.length_map] at hb) <;> (try (exfalso; omega; done)) | fail)
    exact ⟨4 * i, false, rfl, fun _ => by rw [hlen]; omega⟩
theorem all_spec (w : Wd) (hw : w.few) (person day kn : Int) : PSpec Try.prog 18 [.agg (encWd w), .int person, .int day, .int kn] (encIRs (allW w person day kn)) := by
  have hI := creds1_spec w hw person day kn
  have hlen : (crRows w person day kn).length = 4 * w.src.schemas.length := by simp [crRows]
  have h6 := hw.sc
  refine PSpec.of_vc (fun Γ => more8 false Γ.P Γ.fx) (fun Γ => more8_ok) Try.func18 rfl Try.call18 (by simp) ?_
  rintro ⟨P, N, w0, X, β0, fx, y, hy, pk, df⟩ rfl rfl rfl hoff rfl; change y.on = false at hoff
  skip
  refine .inl ⟨_, creds_spec w person day kn, ?_⟩
  repeat' ((try conv => whnf); first | refine And.intro rfl ?_ | fail)
  refine Wp.rangeFunc hI [(8, .loc 8 0 0), (9, .loc 9 0 0), (16, .pure (.fn 63 [.ptr (encWd w), .ptr [.int person], .ptr [.int day], .ptr [.int kn]]))]
    (fun i => [(8, some (.box [.lsl 300 0 (crIn w person day kn i).length])), (9, some (.box [.lsl 301 0 (crRd w person day kn i).length])), (300, some (.row 4 ((crIn w person day kn i).map encIn))), (301, some (.row 5 ((crRd w person day kn i).map encRd)))]) (fun _ => [8, 9, 300, 301]) [8, 9]
    (fun _ => True)
    (Le.trans (Le.virt (k := 300) (sz := 4) rfl rfl (by omega)) (Le.trans (Le.virt (k := 301) (sz := 5) rfl rfl (by omega)) (Le.of ?_ ?_ rfl rfl rfl))) rfl hoff trivial rfl rfl (fun _ => rfl) rfl (fun i row hrow => ?_) ?_ ?_
  · (repeat' (first | exact trivial | refine And.intro ?_ ?_ | exact Or.inl rfl | fail))
  · (repeat' (first | exact trivial | exact rfl | refine And.intro ?_ ?_ | refine Exists.intro _ (And.intro rfl ?_) | exact l6 rfl | fail))
  · simp only [crRows, List.getElem?_map, Option.map_eq_some_iff] at hrow
    obtain ⟨x, _, rfl⟩ := hrow
    rfl
  · rintro ⟨P1, N1, w1, X1, β1, fx1, y1, hy1, pk1, df1⟩ rfl rfl rfl hoff1 rfl l k row hrow hok; change y1.on = false at hoff1
    have hk : k < 4 * w.src.schemas.length := by have := (List.getElem?_eq_some_iff.1 hrow).1; omega
    rw [crRows, List.getElem?_map, List.getElem?_range hk] at hrow
    have e1 := crIn_succ w person day kn k
    have e2 := crRd_succ w person day kn k
    have n1 := crIn_len w person day kn k
    have n2 := crRd_len hw person day kn k
    obtain ⟨⟨x, rs, b⟩, hx⟩ : ∃ x, x = crW w person day kn k := ⟨_, rfl⟩
    have n3 : rs.length ≤ 6 := by have := atW_len hw ((k / 4 : Nat) : Int) person ((k % 4 : Nat) : Int) day kn; unfold crW at hx; rw [← hx] at this; exact this
    rw [← hx] at e1 e2
    simp only [Option.map_some, ← hx] at hrow
    obtain ⟨l1, hl1⟩ : ∃ l, l = crIn w person day kn k := ⟨_, rfl⟩
    obtain ⟨l2, hl2⟩ : ∃ l, l = crRd w person day kn k := ⟨_, rfl⟩
    rw [← hl1] at e1 n1 ⊢
    rw [← hl2] at e2 n2 ⊢
    cases b with
    | false =>
      obtain rfl : row = [PV.val (.pointer none), encRds rs] := (Option.some.inj hrow).symm
      simp only [Bool.false_eq_true, if_false, List.append_nil] at e1
      refine code_sound (more := more8 false _ _) more8_ok (FOK.inRound _) _ ?_
      skip
      rintro ⟨P2, N2, w2, X2, β2, fx2, y2, hy2, pk2, df2⟩ rfl rfl rfl hoff2 rfl; change y2.on = false at hoff2
      refine code_sound (more := more8 false _ _) more8_ok (FOK.inRound _) _ ?_
      repeat' ((try conv => whnf); first | refine Both.intro ?_ ?_ | refine And.intro rfl ?_ | refine And.intro bd ?_ | fail)
      all_goals first
        | exact trivial
        | (refine Le.map [(301, 29)] trivial ?_ rfl rfl rfl rfl
           rw [e1, e2]
           (repeat' (first | exact trivial | exact rfl | refine And.intro ?_ ?_ | refine Exists.intro _ (And.intro rfl ?_) | exact Or.inl rfl | exact SubA.lsl ls | fail))
           all_goals first
             | (refine SubA.lsl ?_; focus (simp; done))
             | (refine rowEq ?_; focus (first | exact (List.map_append ..).symm | exact List.map_append .. | (simp; done) | (rw [List.map_append]; rfl))))
    | true =>
      obtain rfl : row = [PV.ptr (encIn x), encRds rs] := (Option.some.inj hrow).symm
      simp only [if_true] at e1
      refine code_sound (more := more8 false _ _) more8_ok (FOK.inRound _) _ ?_
      skip
      rintro ⟨P2, N2, w2, X2, β2, fx2, y2, hy2, pk2, df2⟩ rfl rfl rfl hoff2 rfl; change y2.on = false at hoff2
      refine code_sound (more := more8 false _ _) more8_ok (FOK.inRound _) _ ?_
      skip
      refine Wp.draw (more := more8 true _ _) more8_det more8_ok (FOK.inRound _) rfl (by decide +kernel) (by conv => lhs; reduce) ?_
      repeat' ((try conv => whnf); first | refine Both.intro ?_ ?_ | refine And.intro rfl ?_ | refine And.intro bd ?_ | fail)
      all_goals first
        | exact trivial
        | (refine Le.map [(301, 29), (300, 26)] trivial ?_ rfl rfl rfl rfl
           rw [e1, e2]
           (repeat' (first | exact trivial | refine And.intro ?_ ?_ | refine Exists.intro _ (And.intro rfl ?_) | exact SubA.lsl ls | fail))
           all_goals first
             | (refine SubA.lsl ?_; focus (simp; done))
             | (refine rowEq ?_; focus (first | exact (List.map_append ..).symm | exact List.map_append .. | (simp; done) | (rw [List.map_append]; rfl))))
  · intro _
    rw [hlen]
    skip
    refine Wp.draw (more := more8 true _ _) more8_det more8_ok FOK.wide rfl (by decide +kernel) (by conv => lhs; reduce) ?_
    repeat' ((try conv => whnf); first | refine And.intro rfl ?_ | fail)
    exact PSub.tup ⟨sub_sl (by rw [List.drop_zero, List.take_of_length_le (by simp)]; rfl), sub_sl (by rw [List.drop_zero, List.take_of_length_le (by simp)]; rfl), trivial⟩
end Go.Proofs.Ytmaggokcjcdllaa
/- Records: the reference's All. Conditions: none. -/
namespace Go.Proofs.Ytmaggokcjcdllaa
open Go.Avc
set_option maxRecDepth 20000
set_option maxHeartbeats 4000000
set_option linter.unusedSimpArgs false
attribute [local irreducible] PSub Wp PSpec Le Need Both
attribute [local irreducible] atF valOK recOK atW
end Go.Proofs.Ytmaggokcjcdllaa
/- Records: what can be recorded. Conditions: none. -/
namespace Go.Proofs.Ytmaggokcjcdllaa
open Go.Avc
/-- The values of a credential are of the types of their fields. -/
def valsOK (s : Src) (x : In) : Prop := ∀ i, i < x.values.length → 0 < i → valOK s x.schema i (x.values.getD i 0) = true
instance (s : Src) (x : In) : Decidable (valsOK s x) := by unfold valsOK; infer_instance
def fitsOK (s : Src) (x : In) : Prop := recOK s x.schema = true ∧ 0 ≤ x.person ∧ x.person < 4096 ∧ 0 ≤ x.item ∧ x.item < 4 ∧ x.values.length = nF s x.schema + 1 ∧ x.values.getD 0 0 = x.person ∧ valsOK s x
instance (s : Src) (x : In) : Decidable (fitsOK s x) := by unfold fitsOK; infer_instance
set_option maxRecDepth 20000
set_option maxHeartbeats 4000000
set_option linter.unusedSimpArgs false
attribute [local irreducible] PSub Wp PSpec Le Need Both
attribute [local irreducible] atF valOK recOK
theorem fits_spec (w : Wd) (hw : w.few) (x : In) (hl : x.values.length ≤ 30) : PSpec Try.prog 42 [.agg (encSrc w.src), .agg (encIn x)] (.bool (decide (fitsOK w.src x))) := by
  have hsub : ∀ xp xi : Int, ∃ b, PSpec Try.prog 32 [.int xp, .int xi] (.bool b) ∧ (b = false → ¬ (0 ≤ xp ∧ xp < 4096 ∧ 0 ≤ xi ∧ xi < 4)) ∧ (b = true → 0 ≤ xp ∧ xp < 4096 ∧ 0 ≤ xi ∧ xi < 4) := fun xp xi => ⟨_, subject_spec xp xi, fun h => of_decide_eq_false h, fun h => of_decide_eq_true h⟩
  obtain ⟨r, hr⟩ : ∃ r, r = decide (fitsOK w.src x) := ⟨_, rfl⟩
  have hno : ¬ fitsOK w.src x → PSub (.val (.bool false)) (.bool r) := fun h => by rw [hr, decide_eq_false h]; exact PSub.refl _
  have hyes : fitsOK w.src x → PSub (.val (.bool true)) (.bool r) := fun h => by rw [hr, decide_eq_true h]; exact PSub.refl _
  rw [← hr]
  have hvl : (x.values.map fun x => [PV.int x]).length = x.values.length := List.length_map ..
  have q1 := recorded_spec w.src hw.sz x.schema
  by_cases hrc : recOK w.src x.schema = true
  · rw [hrc] at q1
    rcases rec_cases w.src x.schema with ⟨k, hk, hxs, h2, _⟩ | ⟨_, hrf⟩
    case inr => rw [hrc] at hrf; cases hrf
    obtain ⟨xs, xp, xi, xv⟩ := x
    dsimp only at hxs hvl q1 hl hrc
    subst hxs
    have hsl : (w.src.schemas.map encSc).length = w.src.schemas.length := List.length_map ..
    have hfl : (w.src.schemas[k].fields.map encFd).length = w.src.schemas[k].fields.length := List.length_map ..
    have h6 := hw.fd _ (List.getElem_mem hk)
    have hn := nF_at hk
    have hfit : fitsOK w.src ⟨k, xp, xi, xv⟩ ↔ (0 ≤ xp ∧ xp < 4096 ∧ 0 ≤ xi ∧ xi < 4) ∧ xv.length = w.src.schemas[k].fields.length ∧ xv.getD 0 0 = xp ∧ valsOK w.src ⟨k, xp, xi, xv⟩ := by
      unfold fitsOK
      dsimp only
      rw [hn]
      constructor
      · rintro ⟨_, b, c, d, e, f, g, h⟩; exact ⟨⟨b, c, d, e⟩, by omega, g, h⟩
      · rintro ⟨⟨b, c, d, e⟩, f, g, h⟩; exact ⟨hrc, b, c, d, e, by omega, g, h⟩
    clear hr
    have hlE : xv.length = w.src.schemas[k].fields.length ↔ (xv.length : Int) = ((w.src.schemas[k].fields.map encFd).length : Int) := by omega
    have hv0 : ∀ (h : Int.toNat 0 < xv.length), xv[Int.toNat 0]'h = xv.getD 0 0 := fun h => by have h' : 0 < xv.length := h; simp [h']
    obtain ⟨b2, q2, n2, hS⟩ := hsub xp xi
    have hvk : ∀ j, j < xv.length → 0 < j → PSpec Try.prog 26 [.agg (encSrc w.src), .int k, .int j, .int (xv.getD j 0)] (.bool (valOK w.src k j (xv.getD j 0))) := fun j _ _ => value_spec w.src hw.sz k j _
    refine PSpec.of_vc (fun Γ => more8 false Γ.P Γ.fx) (fun Γ => more8_ok) Try.func42 rfl Try.call42 (by simp) ?_
    rintro ⟨P, N, w0, X, β0, fx, y, hy, pk, df⟩ rfl rfl rfl hoff rfl; change y.on = false at hoff
    skip
    refine Wp.draw (more := more8 true _ _) more8_det more8_ok FOK.wide rfl (by decide +kernel) (by conv => lhs; reduce) ?_
    skip
    refine ⟨_, q1, ?_⟩
    skip
    refine ⟨_, q2, ?_⟩
    repeat' ((try conv => whnf); first | (first | refine k3 (fun hb => ?_) fun hb => ?_ | refine k4 (fun hb => ?_) fun hb => ?_) <;> (try rw [List.length_map] at hb) <;> (try (exfalso; omega; done)) | refine k5 (fun hb => ?_) fun hb => ?_ | refine s5 nm nm ?_ | refine s6 nm nm ?_ | fail)
    skip
    skip
    all_goals first
      | exact hno fun h => n2 (by assumption) (hfit.1 h).1
      | exact hno fun h => n3 (by assumption) (hfit.1 h).1
      | (rename_i hb; exact hno fun h => absurd (hlE.1 (hfit.1 h).2.1) hb)
      | (rename_i hb; exact hno fun h => hb ((hv0 _).trans (hfit.1 h).2.2.1))
      | skip
    have hsub := by first | exact hS (by assumption) (by assumption) | exact hS (by assumption)
    have hlen : xv.length = w.src.schemas[k].fields.length := hlE.2 (by assumption)
    have hval0 : xv.getD 0 0 = xp := (hv0 (by omega)).symm.trans (by assumption)
    refine Wp.loop (fun i : Nat => ⟨[(2, .loc 2 0 0), (3, .loc 3 0 0), (5, .int ((i : Int) + 1))], [(2, some (.box (pures (encSrc w.src)))), (3, some (.box (pures (encIn ⟨k, xp, xi, xv⟩))))], [2, 3]⟩) (fun i => i < xv.length ∧ ∀ j, j < xv.length → 0 < j → j < i + 1 → valOK w.src k j (xv.getD j 0) = true) (fun i => xv.length - i) 0 (Le.of ?_ ?_ rfl rfl rfl) ⟨by omega, fun j _ h1 h2 => by omega⟩ ?_
    · (repeat' (first | exact trivial | refine And.intro ?_ ?_ | exact Or.inl rfl | fail))
    · (repeat' (first | exact trivial | refine And.intro ?_ ?_ | refine Exists.intro _ (And.intro rfl ?_) | exact Or.inl rfl | fail))
    intro i ⟨hi, ho⟩
    by_cases hi2 : i + 1 < xv.length
    · have q := value_spec w.src hw.sz k ((i : Int) + 1) (xv[((i : Int) + 1).toNat]'(by omega))
      have hve : valOK w.src k ((i : Int) + 1) (xv[((i : Int) + 1).toNat]'(by omega)) = valOK w.src k ((i + 1 : Nat) : Int) (xv.getD (i + 1) 0) := by
        have e0 : ((i : Int) + 1).toNat = i + 1 := by omega
        simp only [e0]
        rw [show xv.getD (i + 1) 0 = xv[i + 1] by simp [hi2]]; rfl
      obtain ⟨o, ho0⟩ : ∃ o, o = valOK w.src k ((i : Int) + 1) (xv[((i : Int) + 1).toNat]'(by omega)) := ⟨_, rfl⟩
      rw [← ho0] at q hve
      refine code_sound (more := more8 false _ _) more8_ok FOK.wide _ ?_
      repeat' ((try conv => whnf); first | (first | refine k3 (fun hb => ?_) fun hb => ?_ | refine k4 (fun hb => ?_) fun hb => ?_) <;> (try rw [List.length_map] at hb) <;> (try (exfalso; omega; done)) | fail)
      refine Wp.draw (more := more8 true _ _) more8_det more8_ok FOK.wide rfl (by decide +kernel) (by conv => lhs; reduce) ?_
      repeat' ((try conv => whnf); first | refine s5 nm nm ?_ | fail)
      refine ⟨_, q, ?_⟩
      repeat' ((try conv => whnf); first | refine k5 (fun hb => ?_) fun hb => ?_ | refine s4 nm ?_ | fail)
      · refine ⟨i + 1, Le.of (by (repeat' (first | exact trivial | refine And.intro ?_ ?_ | exact Or.inl rfl | fail))) (by (repeat' (first | exact trivial | refine And.intro ?_ ?_ | refine Exists.intro _ (And.intro rfl ?_) | exact Or.inl rfl | fail))) rfl rfl rfl, ⟨by omega, fun j h0 h1 h2 => ?_⟩, by omega⟩
        by_cases e : j = i + 1
        · subst e; rw [← hve]; assumption
        · exact ho j h0 h1 (by omega)
      · exact hno fun h => by
          have h1 := (hfit.1 h).2.2.2 (i + 1) hi2 (by omega)
          dsimp only at h1
          rw [← hve] at h1
          rw [show o = false by assumption] at h1
          cases h1
    · refine code_sound (more := more8 false _ _) more8_ok FOK.wide _ ?_
      repeat' ((try conv => whnf); first | (first | refine k3 (fun hb => ?_) fun hb => ?_ | refine k4 (fun hb => ?_) fun hb => ?_) <;> (try rw [List.length_map] at hb) <;> (try (exfalso; omega; done)) | fail)
      exact hyes (hfit.2 ⟨hsub, hlen, hval0, fun j h0 h1 => ho j h0 h1 (by omega)⟩)
  · rw [Bool.not_eq_true] at hrc
    rw [hrc] at q1
    refine PSpec.of_vc (fun Γ => more8 false Γ.P Γ.fx) (fun Γ => more8_ok) Try.func42 rfl Try.call42 (by simp) ?_
    rintro ⟨P, N, w0, X, β0, fx, y, hy, pk, df⟩ rfl rfl rfl hoff rfl; change y.on = false at hoff
    skip
    refine Wp.draw (more := more8 true _ _) more8_det more8_ok FOK.wide rfl (by decide +kernel) (by conv => lhs; reduce) ?_
    skip
    refine ⟨_, q1, ?_⟩
    skip
    exact hno fun h => by have := h.1; rw [hrc] at this; cases this
end Go.Proofs.Ytmaggokcjcdllaa
/- Records: a credential is recorded. Conditions: none. -/
namespace Go.Proofs.Ytmaggokcjcdllaa
open Go.Avc
structure Sp where
  (lo hi : Int)
def encSp (v : Sp) : List PV := [.int v.lo, .int v.hi]
def zeroWd : Wd := ⟨⟨[], [], [], [], [], []⟩, [], []⟩
def encWE (x : Wd × Int) : PV := .tup [.agg (encWd x.1), .int x.2]
/-- The fact of a field. -/
def factW (x : In) (v : Sp) (kn no : Int) (i : Nat) : Fa := ⟨keyW x.schema x.person x.item i, x.values.getD i 0, v.lo, v.hi, kn, no + (i - 1)⟩
/-- The facts of n fields, from the i-th on, are added. -/
def putN (x : In) (v : Sp) (kn no : Int) : Nat → Nat → List Fa → List Fa × Int
  | 0, _, l => (l, 0)
  | n + 1, i, l => if (addF l (factW x v kn no i)).2 = 0 then putN x v kn no n (i + 1) (addF l (factW x v kn no i)).1 else ([], (addF l (factW x v kn no i)).2)
def noW (l : List Fa) (kn : Int) : Int := match l.getLast? with
  | some f => if f.known = kn then f.no + 1 else 0
  | none => 0
theorem noW_at {l : List Fa} {kn : Int} (h : 0 < l.length) : noW l kn = if l[l.length - 1].known = kn then l[l.length - 1].no + 1 else 0 := by
  unfold noW
  rw [List.getLast?_eq_getElem?, List.getElem?_eq_getElem (by omega)]
theorem noW_nil {l : List Fa} {kn : Int} (h : l.length = 0) : noW l kn = 0 := by
  rw [List.length_eq_zero_iff.1 h]; rfl
def putW (w : Wd) (x : In) (v : Sp) (kn : Int) : Wd × Int :=
  if chkF w.facts ≠ 0 then (zeroWd, chkF w.facts)
  else if fitsOK w.src x then
    (if (putN x v kn (noW w.facts kn) (x.values.length - 1) 1 w.facts).2 = 0 then (⟨w.src, w.order, (putN x v kn (noW w.facts kn) (x.values.length - 1) 1 w.facts).1⟩, 0)
    else (zeroWd, (putN x v kn (noW w.facts kn) (x.values.length - 1) 1 w.facts).2))
  else (zeroWd, 170)
theorem addF_len (l : List Fa) (f : Fa) : (addF l f).1.length ≤ l.length + 1 := by
  unfold addF
  split
  · simp
  · split
    · split <;> simp
    · simp
theorem chk_ok {l : List Fa} (h : chkF l = 0) : okF l = true := by
  unfold chkF at h
  split at h
  · assumption
  · omega
theorem no_bound {l : List Fa} {kn : Int} (h : chkF l = 0) : 0 ≤ noW l kn ∧ noW l kn ≤ 65536 := by
  by_cases h0 : 0 < l.length
  · have := (okF_iff l).1 (chk_ok h) (l.length - 1) (by omega)
    unfold Fa.ok at this
    rw [noW_at h0]
    split <;> omega
  · rw [noW_nil (by omega)]; omega
theorem zeroWd_sub {x : Wd × Int} {e : Int} (h : x = (zeroWd, e)) : PSub (.tup [.agg [.val (.slice none 0 0), .val (.slice none 0 0), .val (.slice none 0 0), .val (.slice none 0 0), .val (.slice none 0 0), .val (.slice none 0 0), .val (.slice none 0 0), .val (.slice none 0 0)], .int e]) (encWE x) := by
  subst h
  exact PSub.tup ⟨PSub.agg ⟨PSub.nil 1, PSub.nil 5, PSub.nil 6, PSub.nil 5, PSub.nil 5, PSub.nil 3, PSub.nil 1, PSub.nil 8, trivial⟩, PSub.refl _, trivial⟩
set_option maxRecDepth 20000
set_option maxHeartbeats 4000000
set_option linter.unusedSimpArgs false
attribute [local irreducible] PSub Wp PSpec Le Need Both
attribute [local irreducible] Fa.ok Fa.bef atF valOK recOK fitsOK addF chkF
theorem cloneFp_spec (l : List Fa) (hl : l.length ≤ 100000) : PSpec Try.prog 43 [encFs l] (encFs l) := by
  refine PSpec.of_vc (fun Γ => more8 false Γ.P Γ.fx) (fun Γ => more8_ok) Try.func43 rfl Try.call43 (by simp) ?_
  rintro ⟨P, N, w0, X, β0, fx, y, hy, pk, df⟩ rfl rfl rfl hoff rfl; change y.on = false at hoff
  skip
  intro r hr
  repeat' ((try conv => whnf); first | refine k6 (fun hb => ?_) fun hb => ?_ | refine And.intro rfl ?_ | refine And.intro bd ?_ | fail)
  · have e : l = [] := List.map_eq_nil_iff.1 (hr (by assumption))
    subst e
    exact PSub.nil 8
  · exact sub_sl (by rw [List.take_of_length_le (by simp)]; rfl)
theorem put_spec (w : Wd) (hw : w.few) (x : In) (hl : x.values.length ≤ 30) (v : Sp) (kn : Int) : PSpec Try.prog 21 [.agg (encWd w), .agg (encIn x), .agg (encSp v), .int kn] (encWE (putW w x v kn)) := by
  have qc := check_spec w.facts (by have := hw.fa; omega)
  have qf := fits_spec w hw x hl
  obtain ⟨res, hres⟩ : ∃ r, r = putW w x v kn := ⟨_, rfl⟩
  rw [← hres]
  obtain ⟨c, hc⟩ : ∃ c, c = chkF w.facts := ⟨_, rfl⟩
  obtain ⟨b, hb⟩ : ∃ b, b = decide (fitsOK w.src x) := ⟨_, rfl⟩
  rw [← hc] at qc
  rw [← hb] at qf
  have z1 : c ≠ 0 → res = (zeroWd, c) := fun h => by rw [hres, putW, if_pos (hc ▸ h), hc]
  have z2 : c = 0 → b = false → res = (zeroWd, 170) := fun h h2 => by rw [hres, putW, if_neg (by omega), if_neg (of_decide_eq_false (hb ▸ h2))]
  have hnb : c = 0 → 0 ≤ noW w.facts kn ∧ noW w.facts kn ≤ 65536 := fun h => no_bound (hc ▸ h)
  have h60 := hw.fa
  by_cases hfit : fitsOK w.src x
  case neg =>
    rw [decide_eq_false hfit] at hb
    subst hb
    refine PSpec.of_vc (fun Γ => more8 false Γ.P Γ.fx) (fun Γ => more8_ok) Try.func21 rfl Try.call21 (by simp) ?_
    rintro ⟨P, N, w0, X, β0, fx, y, hy, pk, df⟩ rfl rfl rfl hoff rfl; change y.on = false at hoff
    skip
    refine .inl ⟨_, qc, ?_⟩
    repeat' ((try conv => whnf); first | (first | refine k3 (fun hb => ?_) fun hb => ?_ | refine k4 (fun hb => ?_) fun hb => ?_) <;> (try rw [List.length_map] at hb) <;> (try (exfalso; omega; done)) | refine And.intro rfl ?_ | fail)
    · refine .inl ⟨_, qf, ?_⟩
      repeat' ((try conv => whnf); first | refine And.intro rfl ?_ | fail)
      exact zeroWd_sub (z2 (by assumption) rfl)
    · exact zeroWd_sub (z1 (by assumption))
  rw [decide_eq_true hfit] at hb
  subst hb
  have hitem : 0 ≤ x.item ∧ x.item < 4 := by unfold fitsOK at hfit; omega
  have hvl : (x.values.map fun x => [PV.int x]).length = x.values.length := List.length_map ..
  obtain ⟨no, hno⟩ : ∃ n, n = noW w.facts kn := ⟨_, rfl⟩
  rw [← hno] at hnb
  have z3 : c = 0 → ∀ l, putN x v kn no (x.values.length - 1) 1 w.facts = (l, 0) → res = (⟨w.src, w.order, l⟩, 0) := fun h l hp => by
    rw [hres, putW, if_neg (by omega), if_pos hfit, ← hno, hp, if_pos rfl]
  have z4 : c = 0 → ∀ l e, putN x v kn no (x.values.length - 1) 1 w.facts = (l, e) → e ≠ 0 → res = (zeroWd, e) := fun h l e hp he => by
    rw [hres, putW, if_neg (by omega), if_pos hfit, ← hno, hp, if_neg he]
  by_cases h0 : 0 < w.facts.length
  · have g := getF (l := w.facts) (k := w.facts.length - 1) (by omega)
    have hfl : (w.facts.map encFa).length = w.facts.length := List.length_map ..
    have hei : (((w.facts.map encFa).length : Int) - 1).toNat = w.facts.length - 1 := by omega
    have hno2 := hno.trans (noW_at (kn := kn) h0)
    have hfk : c = 0 → w.facts[w.facts.length - 1].ok := fun h => (okF_iff _).1 (chk_ok (hc ▸ h)) _ _
    have n1 : w.facts[(((w.facts.map encFa).length : Int) - 1).toNat].known = kn → no = w.facts[(((w.facts.map encFa).length : Int) - 1).toNat].no + 1 := by simp only [hei]; exact fun h => hno2.trans (if_pos h)
    have n2 : ¬ w.facts[(((w.facts.map encFa).length : Int) - 1).toNat].known = kn → no = 0 := by simp only [hei]; exact fun h => hno2.trans (if_neg h)
    have n3 : c = 0 → 0 ≤ w.facts[(((w.facts.map encFa).length : Int) - 1).toNat].no ∧ w.facts[(((w.facts.map encFa).length : Int) - 1).toNat].no ≤ 65536 := by simp only [hei]; exact fun h => by have h1 := hfk h; unfold Fa.ok at h1; omega
    refine PSpec.of_vc (fun Γ => more8 false Γ.P Γ.fx) (fun Γ => more8_ok) Try.func21 rfl Try.call21 (by simp) ?_
    rintro ⟨P, N, w0, X, β0, fx, y, hy, pk, df⟩ rfl rfl rfl hoff rfl; change y.on = false at hoff
    skip
    refine .inl ⟨_, qc, ?_⟩
    repeat' ((try conv => whnf); first | (first | refine k3 (fun hb => ?_) fun hb => ?_ | refine k4 (fun hb => ?_) fun hb => ?_) <;> (try rw [List.length_map] at hb) <;> (try (exfalso; omega; done)) | refine And.intro rfl ?_ | fail)
    · have hc0 := hnb (by assumption)
      have hn3 := n3 (by assumption)
      refine .inl ⟨_, qf, ?_⟩
      skip
      refine .inl ⟨_, cloneFp_spec w.facts (by omega), ?_⟩
      repeat' ((try conv => whnf); first | (first | refine k3 (fun hb => ?_) fun hb => ?_ | refine k4 (fun hb => ?_) fun hb => ?_) <;> (try rw [List.length_map] at hb) <;> (try (exfalso; omega; done)) | refine And.intro rfl ?_ | refine s4 nm ?_ | refine s6 nm nm ?_ | fail)
      · have hnn := n1 (by assumption)
        refine Wp.loop (fun y : Nat × List Fa => ⟨[(3, .int kn), (4, .loc 4 0 0), (5, .loc 5 0 0), (6, .loc 6 0 0), (8, .loc 8 0 0), (11, .pure (encFs y.2)), (12, .int (no + y.1)), (14, .int ((y.1 : Int) + 1))], [(4, some (.box (pures (encWd w)))), (5, some (.box (pures (encIn x)))), (6, some (.box (pures (encSp v)))), (8, some (.box (pures [.val (.slice none 0 0), .val (.slice none 0 0), .val (.slice none 0 0), .val (.slice none 0 0), .val (.slice none 0 0), .val (.slice none 0 0), .val (.slice none 0 0), .val (.slice none 0 0)])))], [4, 5, 6, 8]⟩)
          (fun y => y.1 < x.values.length ∧ y.2.length ≤ 100 + y.1 ∧ putN x v kn no (x.values.length - 1 - y.1) (y.1 + 1) y.2 = putN x v kn no (x.values.length - 1) 1 w.facts) (fun y => x.values.length - y.1) (0, w.facts) (Le.of ?_ ?_ rfl rfl rfl) ⟨by unfold fitsOK at hfit; simp only; omega, by simp only; omega, rfl⟩ ?_
        · (repeat' (first | exact trivial | refine And.intro ?_ ?_ | exact Or.inl rfl | exact l1 bd | fail))
        · (repeat' (first | exact trivial | refine And.intro ?_ ?_ | refine Exists.intro _ (And.intro rfl ?_) | exact Or.inl rfl | fail))
        rintro ⟨i, l⟩ ⟨hi, hll, hp⟩
        dsimp only at hi hll hp ⊢
        by_cases hi2 : i + 1 < x.values.length
        · have qk := key_spec x.schema x.person x.item ((i : Int) + 1) hitem (by omega)
          have qa := add_spec l (factW x v kn no (i + 1)) (by omega)
          have hal := addF_len l (factW x v kn no (i + 1))
          rw [show x.values.length - 1 - i = (x.values.length - 1 - (i + 1)) + 1 by omega, putN] at hp
          have ef : encFa (factW x v kn no (i + 1)) = [.int x.schema, .int x.person, .int (16 * x.item + ((i : Int) + 1)), .int (x.values[((i : Int) + 1).toNat]'(by omega)), .int v.lo, .int v.hi, .int kn, .int (no + i)] := by
            have e0 : ((i : Int) + 1).toNat = i + 1 := by omega
            simp only [e0]
            unfold factW encFa keyW
            simp [hi2]
          rw [ef] at qa
          obtain ⟨⟨l', e'⟩, hx⟩ : ∃ r, r = addF l (factW x v kn no (i + 1)) := ⟨_, rfl⟩
          rw [← hx] at qa hal hp
          dsimp only at hal hp
          refine code_sound (more := more8 false _ _) more8_ok FOK.wide _ ?_
          repeat' ((try conv => whnf); first | (first | refine k3 (fun hb => ?_) fun hb => ?_ | refine k4 (fun hb => ?_) fun hb => ?_) <;> (try rw [List.length_map] at hb) <;> (try (exfalso; omega; done)) | fail)
          refine Wp.draw (more := more8 true _ _) more8_det more8_ok FOK.wide rfl (by decide +kernel) (by conv => lhs; reduce) ?_
          skip
          refine ⟨_, qk, ?_⟩
          repeat' ((try conv => whnf); first | refine And.intro rfl ?_ | refine s5 nm nm ?_ | fail)
          refine ⟨_, qa, ?_⟩
          repeat' ((try conv => whnf); first | (first | refine k3 (fun hb => ?_) fun hb => ?_ | refine k4 (fun hb => ?_) fun hb => ?_) <;> (try rw [List.length_map] at hb) <;> (try (exfalso; omega; done)) | refine And.intro rfl ?_ | refine s4 nm ?_ | fail)
          · rw [if_pos (by assumption)] at hp
            refine ⟨(i + 1, l'), Le.of (by (repeat' (first | exact trivial | refine And.intro ?_ ?_ | exact Or.inl rfl | exact l1 bd | fail))) (by (repeat' (first | exact trivial | refine And.intro ?_ ?_ | refine Exists.intro _ (And.intro rfl ?_) | exact Or.inl rfl | fail))) rfl rfl rfl, ⟨hi2, by simp only; omega, hp⟩, by simp only; omega⟩
          · rw [if_neg (by assumption)] at hp
            exact zeroWd_sub (z4 (by assumption) _ _ hp.symm (by assumption))
        · rw [show x.values.length - 1 - i = 0 by omega, putN] at hp
          refine code_sound (more := more8 false _ _) more8_ok FOK.wide _ ?_
          repeat' ((try conv => whnf); first | (first | refine k3 (fun hb => ?_) fun hb => ?_ | refine k4 (fun hb => ?_) fun hb => ?_) <;> (try rw [List.length_map] at hb) <;> (try (exfalso; omega; done)) | refine And.intro rfl ?_ | fail)
          have e := z3 (by assumption) l hp.symm
          rw [e]
          exact PSub.refl _
      · have hnn := n2 (by assumption)
        refine Wp.loop (fun y : Nat × List Fa => ⟨[(3, .int kn), (4, .loc 4 0 0), (5, .loc 5 0 0), (6, .loc 6 0 0), (8, .loc 8 0 0), (11, .pure (encFs y.2)), (12, .int (no + y.1)), (14, .int ((y.1 : Int) + 1))], [(4, some (.box (pures (encWd w)))), (5, some (.box (pures (encIn x)))), (6, some (.box (pures (encSp v)))), (8, some (.box (pures [.val (.slice none 0 0), .val (.slice none 0 0), .val (.slice none 0 0), .val (.slice none 0 0), .val (.slice none 0 0), .val (.slice none 0 0), .val (.slice none 0 0), .val (.slice none 0 0)])))], [4, 5, 6, 8]⟩)
          (fun y => y.1 < x.values.length ∧ y.2.length ≤ 100 + y.1 ∧ putN x v kn no (x.values.length - 1 - y.1) (y.1 + 1) y.2 = putN x v kn no (x.values.length - 1) 1 w.facts) (fun y => x.values.length - y.1) (0, w.facts) (Le.of ?_ ?_ rfl rfl rfl) ⟨by unfold fitsOK at hfit; simp only; omega, by simp only; omega, rfl⟩ ?_
        · (repeat' (first | exact trivial | refine And.intro ?_ ?_ | exact Or.inl rfl | exact l1 bd | fail))
        · (repeat' (first | exact trivial | refine And.intro ?_ ?_ | refine Exists.intro _ (And.intro rfl ?_) | exact Or.inl rfl | fail))
        rintro ⟨i, l⟩ ⟨hi, hll, hp⟩
        dsimp only at hi hll hp ⊢
        by_cases hi2 : i + 1 < x.values.length
        · have qk := key_spec x.schema x.person x.item ((i : Int) + 1) hitem (by omega)
          have qa := add_spec l (factW x v kn no (i + 1)) (by omega)
          have hal := addF_len l (factW x v kn no (i + 1))
          rw [show x.values.length - 1 - i = (x.values.length - 1 - (i + 1)) + 1 by omega, putN] at hp
          have ef : encFa (factW x v kn no (i + 1)) = [.int x.schema, .int x.person, .int (16 * x.item + ((i : Int) + 1)), .int (x.values[((i : Int) + 1).toNat]'(by omega)), .int v.lo, .int v.hi, .int kn, .int (no + i)] := by
            have e0 : ((i : Int) + 1).toNat = i + 1 := by omega
            simp only [e0]
            unfold factW encFa keyW
            simp [hi2]
          rw [ef] at qa
          obtain ⟨⟨l', e'⟩, hx⟩ : ∃ r, r = addF l (factW x v kn no (i + 1)) := ⟨_, rfl⟩
          rw [← hx] at qa hal hp
          dsimp only at hal hp
          refine code_sound (more := more8 false _ _) more8_ok FOK.wide _ ?_
          repeat' ((try conv => whnf); first | (first | refine k3 (fun hb => ?_) fun hb => ?_ | refine k4 (fun hb => ?_) fun hb => ?_) <;> (try rw [List.length_map] at hb) <;> (try (exfalso; omega; done)) | fail)
          refine Wp.draw (more := more8 true _ _) more8_det more8_ok FOK.wide rfl (by decide +kernel) (by conv => lhs; reduce) ?_
          skip
          refine ⟨_, qk, ?_⟩
          repeat' ((try conv => whnf); first | refine And.intro rfl ?_ | refine s5 nm nm ?_ | fail)
          refine ⟨_, qa, ?_⟩
          repeat' ((try conv => whnf); first | (first | refine k3 (fun hb => ?_) fun hb => ?_ | refine k4 (fun hb => ?_) fun hb => ?_) <;> (try rw [List.length_map] at hb) <;> (try (exfalso; omega; done)) | refine And.intro rfl ?_ | refine s4 nm ?_ | fail)
          · rw [if_pos (by assumption)] at hp
            refine ⟨(i + 1, l'), Le.of (by (repeat' (first | exact trivial | refine And.intro ?_ ?_ | exact Or.inl rfl | exact l1 bd | fail))) (by (repeat' (first | exact trivial | refine And.intro ?_ ?_ | refine Exists.intro _ (And.intro rfl ?_) | exact Or.inl rfl | fail))) rfl rfl rfl, ⟨hi2, by simp only; omega, hp⟩, by simp only; omega⟩
          · rw [if_neg (by assumption)] at hp
            exact zeroWd_sub (z4 (by assumption) _ _ hp.symm (by assumption))
        · rw [show x.values.length - 1 - i = 0 by omega, putN] at hp
          refine code_sound (more := more8 false _ _) more8_ok FOK.wide _ ?_
          repeat' ((try conv => whnf); first | (first | refine k3 (fun hb => ?_) fun hb => ?_ | refine k4 (fun hb => ?_) fun hb => ?_) <;> (try rw [List.length_map] at hb) <;> (try (exfalso; omega; done)) | refine And.intro rfl ?_ | fail)
          have e := z3 (by assumption) l hp.symm
          rw [e]
          exact PSub.refl _
    · exact zeroWd_sub (z1 (by assumption))
  · have hnn := hno.trans (noW_nil (kn := kn) (by omega))
    have hfl : (w.facts.map encFa).length = w.facts.length := List.length_map ..
    refine PSpec.of_vc (fun Γ => more8 false Γ.P Γ.fx) (fun Γ => more8_ok) Try.func21 rfl Try.call21 (by simp) ?_
    rintro ⟨P, N, w0, X, β0, fx, y, hy, pk, df⟩ rfl rfl rfl hoff rfl; change y.on = false at hoff
    skip
    refine .inl ⟨_, qc, ?_⟩
    repeat' ((try conv => whnf); first | (first | refine k3 (fun hb => ?_) fun hb => ?_ | refine k4 (fun hb => ?_) fun hb => ?_) <;> (try rw [List.length_map] at hb) <;> (try (exfalso; omega; done)) | refine And.intro rfl ?_ | fail)
    · have hc0 := hnb (by assumption)
      refine .inl ⟨_, qf, ?_⟩
      skip
      refine .inl ⟨_, cloneFp_spec w.facts (by omega), ?_⟩
      repeat' ((try conv => whnf); first | (first | refine k3 (fun hb => ?_) fun hb => ?_ | refine k4 (fun hb => ?_) fun hb => ?_) <;> (try rw [List.length_map] at hb) <;> (try (exfalso; omega; done)) | refine And.intro rfl ?_ | fail)
      refine Wp.loop (fun y : Nat × List Fa => ⟨[(3, .int kn), (4, .loc 4 0 0), (5, .loc 5 0 0), (6, .loc 6 0 0), (8, .loc 8 0 0), (11, .pure (encFs y.2)), (12, .int (no + y.1)), (14, .int ((y.1 : Int) + 1))], [(4, some (.box (pures (encWd w)))), (5, some (.box (pures (encIn x)))), (6, some (.box (pures (encSp v)))), (8, some (.box (pures [.val (.slice none 0 0), .val (.slice none 0 0), .val (.slice none 0 0), .val (.slice none 0 0), .val (.slice none 0 0), .val (.slice none 0 0), .val (.slice none 0 0), .val (.slice none 0 0)])))], [4, 5, 6, 8]⟩)
        (fun y => y.1 < x.values.length ∧ y.2.length ≤ 100 + y.1 ∧ putN x v kn no (x.values.length - 1 - y.1) (y.1 + 1) y.2 = putN x v kn no (x.values.length - 1) 1 w.facts) (fun y => x.values.length - y.1) (0, w.facts) (Le.of ?_ ?_ rfl rfl rfl) ⟨by unfold fitsOK at hfit; simp only; omega, by simp only; omega, rfl⟩ ?_
      · (repeat' (first | exact trivial | refine And.intro ?_ ?_ | exact Or.inl rfl | exact l1 bd | fail))
      · (repeat' (first | exact trivial | refine And.intro ?_ ?_ | refine Exists.intro _ (And.intro rfl ?_) | exact Or.inl rfl | fail))
      rintro ⟨i, l⟩ ⟨hi, hll, hp⟩
      dsimp only at hi hll hp ⊢
      by_cases hi2 : i + 1 < x.values.length
      · have qk := key_spec x.schema x.person x.item ((i : Int) + 1) hitem (by omega)
        have qa := add_spec l (factW x v kn no (i + 1)) (by omega)
        have hal := addF_len l (factW x v kn no (i + 1))
        rw [show x.values.length - 1 - i = (x.values.length - 1 - (i + 1)) + 1 by omega, putN] at hp
        have ef : encFa (factW x v kn no (i + 1)) = [.int x.schema, .int x.person, .int (16 * x.item + ((i : Int) + 1)), .int (x.values[((i : Int) + 1).toNat]'(by omega)), .int v.lo, .int v.hi, .int kn, .int (no + i)] := by
          have e0 : ((i : Int) + 1).toNat = i + 1 := by omega
          simp only [e0]
          unfold factW encFa keyW
          simp [hi2]
        rw [ef] at qa
        obtain ⟨⟨l', e'⟩, hx⟩ : ∃ r, r = addF l (factW x v kn no (i + 1)) := ⟨_, rfl⟩
        rw [← hx] at qa hal hp
        dsimp only at hal hp
        refine code_sound (more := more8 false _ _) more8_ok FOK.wide _ ?_
        repeat' ((try conv => whnf); first | (first | refine k3 (fun hb => ?_) fun hb => ?_ | refine k4 (fun hb => ?_) fun hb => ?_) <;> (try rw [List.length_map] at hb) <;> (try (exfalso; omega; done)) | fail)
        refine Wp.draw (more := more8 true _ _) more8_det more8_ok FOK.wide rfl (by decide +kernel) (by conv => lhs; reduce) ?_
        skip
        refine ⟨_, qk, ?_⟩
        repeat' ((try conv => whnf); first | refine And.intro rfl ?_ | refine s5 nm nm ?_ | fail)
        refine ⟨_, qa, ?_⟩
        repeat' ((try conv => whnf); first | (first | refine k3 (fun hb => ?_) fun hb => ?_ | refine k4 (fun hb => ?_) fun hb => ?_) <;> (try rw [List.length_map] at hb) <;> (try (exfalso; omega; done)) | refine And.intro rfl ?_ | refine s4 nm ?_ | fail)
        · rw [if_pos (by assumption)] at hp
          refine ⟨(i + 1, l'), Le.of (by (repeat' (first | exact trivial | refine And.intro ?_ ?_ | exact Or.inl rfl | exact l1 bd | fail))) (by (repeat' (first | exact trivial | refine And.intro ?_ ?_ | refine Exists.intro _ (And.intro rfl ?_) | exact Or.inl rfl | fail))) rfl rfl rfl, ⟨hi2, by simp only; omega, hp⟩, by simp only; omega⟩
        · rw [if_neg (by assumption)] at hp
          exact zeroWd_sub (z4 (by assumption) _ _ hp.symm (by assumption))
      · rw [show x.values.length - 1 - i = 0 by omega, putN] at hp
        refine code_sound (more := more8 false _ _) more8_ok FOK.wide _ ?_
        repeat' ((try conv => whnf); first | (first | refine k3 (fun hb => ?_) fun hb => ?_ | refine k4 (fun hb => ?_) fun hb => ?_) <;> (try rw [List.length_map] at hb) <;> (try (exfalso; omega; done)) | refine And.intro rfl ?_ | fail)
        have e := z3 (by assumption) l hp.symm
        rw [e]
        exact PSub.refl _
    · exact zeroWd_sub (z1 (by assumption))
end Go.Proofs.Ytmaggokcjcdllaa
