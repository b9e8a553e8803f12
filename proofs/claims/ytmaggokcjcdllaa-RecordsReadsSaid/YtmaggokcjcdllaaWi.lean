/- Records: schemas that are recorded, keys. Conditions: none. -/
import Derived.Test.YtmaggokcjcdllaaWd
import Derived.Test.YtmaggokcjcdllaaWh
import Derived.Test.YtmaggokcjcdllaaWg
set_option linter.unusedSimpArgs false
set_option linter.unusedVariables false
namespace Go.Proofs.Ytmaggokcjcdllaa
open Go.Avc
theorem mget_mput {α : Type} [DecidableEq α] (ms : List (α × PV)) (a b : α) (v : PV) : mget (mput ms a v) b = if b = a then some v else mget ms b := by
  induction ms with
  | nil => by_cases h : b = a <;> simp [mput, mget, h, eq_comm]
  | cons q ms ih =>
    by_cases hq : q.1 = a
    · rw [mput, if_pos hq]
      by_cases h : b = a
      · simp [mget, h]
      · have h1 : ¬ a = b := fun e => h e.symm
        have h2 : ¬ q.1 = b := fun e => h (by rw [← e, hq])
        simp [mget, h, h1, h2]
    · rw [mput, if_neg hq]
      by_cases h2 : q.1 = b
      · have h : ¬ b = a := fun e => hq (h2.trans e)
        simp [mget, h2, h]
      · have e1 : mget (q :: mput ms a v) b = mget (mput ms a v) b := by simp [mget, h2]
        have e2 : mget (q :: ms) b = mget ms b := by simp [mget, h2]
        rw [e1, e2, ih]
def derived (l : List Ru) (a : Int) : Bool := l.any fun r => decide (r.schema = a)
theorem derived_take {l : List Ru} {a : Int} {i : Nat} (h : i < l.length) : derived (l.take (i + 1)) a = (derived (l.take i) a || decide (l[i].schema = a)) := by
  unfold derived
  rw [List.take_succ_eq_append_getElem h, List.any_append]
  simp
theorem derived_not (l : List Ru) (a : Int) : (l.all fun r => decide (r.schema ≠ a)) = !derived l a := by
  unfold derived
  induction l with
  | nil => rfl
  | cons r l ih => simp only [List.all_cons, List.any_cons, ih, Bool.not_or]; congr 1; simp
/-- Where a schema is, or that it is not recorded for its fields. -/
theorem rec_cases (s : Src) (a : Int) : (∃ (k : Nat) (hk : k < s.schemas.length), a = k ∧ 2 ≤ s.schemas[k].fields.length ∧ recOK s a = !derived s.rules a) ∨
    ((a < 0 ∨ (s.schemas.length : Int) ≤ a ∨ ∃ (k : Nat) (hk : k < s.schemas.length), a = k ∧ s.schemas[k].fields.length < 2) ∧ recOK s a = false) := by
  unfold recOK
  rw [derived_not]
  by_cases ha : a < 0
  · refine .inr ⟨.inl ha, by rw [decide_eq_false (by omega)]; rfl⟩
  obtain ⟨k, rfl⟩ : ∃ k : Nat, a = k := ⟨a.toNat, by omega⟩
  rw [Int.toNat_natCast, decide_eq_true (by omega)]
  by_cases hk : k < s.schemas.length
  · rw [List.getElem?_eq_getElem hk]
    by_cases h2 : 2 ≤ s.schemas[k].fields.length
    · exact .inl ⟨k, hk, rfl, h2, by simp only [decide_eq_true h2, Bool.true_and]⟩
    · exact .inr ⟨.inr (.inr ⟨k, hk, rfl, by omega⟩), by simp only [decide_eq_false h2, Bool.and_false, Bool.false_and]⟩
  · rw [List.getElem?_eq_none (by omega)]
    exact .inr ⟨.inr (.inl (by omega)), by simp⟩
set_option maxRecDepth 20000
set_option maxHeartbeats 4000000
set_option linter.unusedSimpArgs false
attribute [local irreducible] PSub Wp PSpec Le Need Both
theorem subject_spec (a b : Int) : PSpec Try.prog 32 [.int a, .int b] (.bool (decide (0 ≤ a ∧ a < 4096 ∧ 0 ≤ b ∧ b < 4))) := by
  refine PSpec.of_vc (fun Γ => more8 false Γ.P Γ.fx) (fun Γ => more8_ok) Try.func32 rfl Try.call32 (by simp) ?_
  rintro ⟨P, N, w0, X, β0, fx, y, hy, pk, df⟩ rfl rfl rfl hoff rfl; change y.on = false at hoff
  repeat' ((try conv => whnf); first | (first | refine k3 (fun hb => ?_) fun hb => ?_ | refine k4 (fun hb => ?_) fun hb => ?_) <;> (try rw [List.length_map] at hb) <;> (try (exfalso; omega; done)) | fail)
  all_goals exact sub_bool (by first | exact (decide_eq_false (by omega)).symm | exact decide_eq_decide.2 (by omega))
theorem recorded_spec (s : Src) (hs : s.sz) (a : Int) : PSpec Try.prog 31 [.agg (encSrc s), .int a] (.bool (recOK s a)) := by
  have hsl : (s.schemas.map encSc).length = s.schemas.length := List.length_map ..
  have hrl : (s.rules.map encRu).length = s.rules.length := List.length_map ..
  have hrb := hs.lr
  rcases rec_cases s a with ⟨k, hk, rfl, h2, he⟩ | ⟨hno, he⟩
  · have hfl : (s.schemas[k].fields.map encFd).length = s.schemas[k].fields.length := List.length_map ..
    rw [he]
    obtain ⟨R, hR⟩ : ∃ R, R = s.rules := ⟨_, rfl⟩
    refine PSpec.of_vc (fun Γ => more8 false Γ.P Γ.fx) (fun Γ => more8_ok) Try.func31 rfl Try.call31 (by simp) ?_
    rintro ⟨P, N, w0, X, β0, fx, y, hy, pk, df⟩ rfl rfl rfl hoff rfl; change y.on = false at hoff
    repeat' ((try conv => whnf); first | (first | refine k3 (fun hb => ?_) fun hb => ?_ | refine k4 (fun hb => ?_) fun hb => ?_) <;> (try rw [List.length_map] at hb) <;> (try (exfalso; omega; done)) | refine s5 nm nm ?_ | fail)
    refine Wp.loop (fun x : Nat × List (Int × PV) => ⟨[(1, .int k), (5, .mp 27), (29, .pure (.sl 5 (s.rules.map encRu))), (30, .int s.rules.length), (31, .int x.1)], [(27, some (.mp (intK.enc x.2)))], [27]⟩) (fun x => x.1 ≤ s.rules.length ∧ ∀ n, (mget x.2 n).getD (.bool false) = .bool (derived (s.rules.take x.1) n)) (fun x => s.rules.length - x.1) (0, []) (Le.of ?_ ?_ rfl rfl rfl) ⟨Nat.zero_le _, fun n => rfl⟩ ?_
    · (repeat' (first | exact trivial | refine And.intro ?_ ?_ | exact Or.inl rfl | exact l1 bd | fail))
    · (repeat' (first | exact trivial | exact rfl | refine And.intro ?_ ?_ | fail))
    rintro ⟨i, ms⟩ ⟨hi, hn⟩
    dsimp only at hi hn ⊢
    by_cases hi2 : i < s.rules.length
    · refine code_sound (more := more8 false _ _) more8_ok FOK.wide _ ?_
      repeat' ((try conv => whnf); first | (first | refine k3 (fun hb => ?_) fun hb => ?_ | refine k4 (fun hb => ?_) fun hb => ?_) <;> (try rw [List.length_map] at hb) <;> (try (exfalso; omega; done)) | refine And.intro rfl ?_ | refine s5 nm nm ?_ | fail)
      refine ⟨_, inferInstance, intK, s.rules[i].schema, ms, _, rfl, rfl, rfl, rfl, ?_⟩
      repeat' ((try conv => whnf); first | refine s4 nm ?_ | fail)
      refine ⟨(i + 1, mput ms s.rules[i].schema (.bool true)), Le.of (by (repeat' (first | exact trivial | refine And.intro ?_ ?_ | exact Or.inl rfl | fail))) (by (repeat' (first | exact trivial | exact rfl | refine And.intro ?_ ?_ | fail))) rfl rfl rfl, ⟨hi2, fun n => ?_⟩, by simp only; omega⟩
      dsimp only
      rw [mget_mput, derived_take hi2]
      by_cases e : n = s.rules[i].schema
      · rw [if_pos e, decide_eq_true e.symm, Bool.or_true]; rfl
      · rw [if_neg e, decide_eq_false (Ne.symm e), Bool.or_false]; exact hn n
    · have e : i = s.rules.length := by omega
      subst e
      rw [List.take_of_length_le (Nat.le_refl _)] at hn
      have hk' := hn k
      refine code_sound (more := more8 false _ _) more8_ok FOK.wide _ ?_
      repeat' ((try conv => whnf); first | (first | refine k3 (fun hb => ?_) fun hb => ?_ | refine k4 (fun hb => ?_) fun hb => ?_) <;> (try rw [List.length_map] at hb) <;> (try (exfalso; omega; done)) | fail)
      refine ⟨_, inferInstance, intK, k, ms, rfl, rfl, rfl, _, hk', ?_⟩
      skip
      exact PSub.refl _
  · rw [he]
    rcases hno with h | h | ⟨k, hk, rfl, h⟩
    · refine PSpec.of_vc (fun Γ => more8 false Γ.P Γ.fx) (fun Γ => more8_ok) Try.func31 rfl Try.call31 (by simp) ?_
      rintro ⟨P, N, w0, X, β0, fx, y, hy, pk, df⟩ rfl rfl rfl hoff rfl; change y.on = false at hoff
      repeat' ((try conv => whnf); first | (first | refine k3 (fun hb => ?_) fun hb => ?_ | refine k4 (fun hb => ?_) fun hb => ?_) <;> (try rw [List.length_map] at hb) <;> (try (exfalso; omega; done)) | fail)
      all_goals exact PSub.refl _
    · refine PSpec.of_vc (fun Γ => more8 false Γ.P Γ.fx) (fun Γ => more8_ok) Try.func31 rfl Try.call31 (by simp) ?_
      rintro ⟨P, N, w0, X, β0, fx, y, hy, pk, df⟩ rfl rfl rfl hoff rfl; change y.on = false at hoff
      repeat' ((try conv => whnf); first | (first | refine k3 (fun hb => ?_) fun hb => ?_ | refine k4 (fun hb => ?_) fun hb => ?_) <;> (try rw [List.length_map] at hb) <;> (try (exfalso; omega; done)) | fail)
      all_goals exact PSub.refl _
    · have hfl : (s.schemas[k].fields.map encFd).length = s.schemas[k].fields.length := List.length_map ..
      refine PSpec.of_vc (fun Γ => more8 false Γ.P Γ.fx) (fun Γ => more8_ok) Try.func31 rfl Try.call31 (by simp) ?_
      rintro ⟨P, N, w0, X, β0, fx, y, hy, pk, df⟩ rfl rfl rfl hoff rfl; change y.on = false at hoff
      repeat' ((try conv => whnf); first | (first | refine k3 (fun hb => ?_) fun hb => ?_ | refine k4 (fun hb => ?_) fun hb => ?_) <;> (try rw [List.length_map] at hb) <;> (try (exfalso; omega; done)) | refine s5 nm nm ?_ | fail)
      all_goals exact PSub.refl _
end Go.Proofs.Ytmaggokcjcdllaa
/- Records: worlds, keys; what a credential is by the records. Conditions: none. -/
namespace Go.Proofs.Ytmaggokcjcdllaa
open Go.Avc
structure Wd where
  (src : Src) (order : List Int) (facts : List Fa)
def encWd (w : Wd) : List PV := [encSs w.src.issuers, .sl 5 (w.src.units.map encUn), .sl 6 (w.src.schemas.map encSc), .sl 5 (w.src.rules.map encRu), .sl 5 (w.src.converts.map encCv), .sl 3 (w.src.purposes.map encPp), encIs w.order, encFs w.facts]
def encTb (s : Src) (o : List Int) : List PV := [encSs s.issuers, .sl 5 (s.units.map encUn), .sl 6 (s.schemas.map encSc), .sl 5 (s.rules.map encRu), .sl 5 (s.converts.map encCv), .sl 3 (s.purposes.map encPp), encIs o]
structure In where
  (schema person item : Int) (values : List Int)
deriving DecidableEq
def encIn (x : In) : List PV := [.int x.schema, .int x.person, .int x.item, encIs x.values]
def zeroIn : In := ⟨0, 0, 0, []⟩
def keyW (schema person item field : Int) : Ky := ⟨schema, person, 16 * item + field⟩
def keyOK (schema person item field : Int) : Prop := 0 ≤ schema ∧ schema < 16 ∧ 0 ≤ person ∧ person < 4096 ∧ 0 ≤ item ∧ item < 4 ∧ 0 ≤ field ∧ field < 12
instance (a b c d : Int) : Decidable (keyOK a b c d) := by unfold keyOK; infer_instance
def keyP (schema person item field : Int) : Ky := if keyOK schema person item field then keyW schema person item field else ⟨0, 0, 0⟩
/-- What is known of a field: its value, and whether there is one that fits. -/
def lookW (w : Wd) (schema person item day kn : Int) (i : Nat) : Int × Bool :=
  ((atF w.facts (keyW schema person item (i + 1)) day kn).1, (atF w.facts (keyW schema person item (i + 1)) day kn).2 && valOK w.src schema (i + 1) (atF w.facts (keyW schema person item (i + 1)) day kn).1)
def readW (schema person item day : Int) (i : Nat) : Rd := ⟨keyW schema person item (i + 1), day, day + 1⟩
/-- The number of the first fields that are there. -/
def goodN (look : Nat → Int × Bool) (n : Nat) : Nat := (List.range n).findIdx fun i => !(look i).2
theorem goodN_bad {look : Nat → Int × Bool} {n k : Nat} (hk : k < n) (hb : (look k).2 = false) (h : ∀ j, j < k → (look j).2 = true) : goodN look n = k := by
  unfold goodN
  rw [List.findIdx_eq (by simpa using hk)]
  refine ⟨by simp [hb], fun j hj => ?_⟩
  simp [h j hj]
theorem goodN_all {look : Nat → Int × Bool} {n : Nat} (h : ∀ j, j < n → (look j).2 = true) : goodN look n = n := by
  unfold goodN
  rw [List.findIdx_eq_length_of_false]
  · simp
  · intro x hx
    simp [h x (List.mem_range.1 hx)]
def askOK (w : Wd) (schema person item day : Int) : Prop := recOK w.src schema = true ∧ 0 ≤ person ∧ person < 4096 ∧ 0 ≤ item ∧ item < 4 ∧ 0 ≤ day ∧ day < 1024
instance (w : Wd) (a b c d : Int) : Decidable (askOK w a b c d) := by unfold askOK; infer_instance
def nF (s : Src) (schema : Int) : Nat := match s.schemas[schema.toNat]? with
  | some c => c.fields.length - 1
  | none => 0
theorem nF_at {s : Src} {k : Nat} (h : k < s.schemas.length) : nF s k = s.schemas[k].fields.length - 1 := by
  unfold nF
  rw [Int.toNat_natCast, List.getElem?_eq_getElem h]
def atW (w : Wd) (schema person item day kn : Int) : In × List Rd × Bool :=
  if askOK w schema person item day then
    (if goodN (lookW w schema person item day kn) (nF w.src schema) = nF w.src schema then
      (⟨schema, person, item, person :: (List.range (nF w.src schema)).map fun i => (lookW w schema person item day kn i).1⟩, (List.range (nF w.src schema)).map (readW schema person item day), true)
    else (zeroIn, (List.range (goodN (lookW w schema person item day kn) (nF w.src schema) + 1)).map (readW schema person item day), false))
  else (zeroIn, [], false)
def encAW (x : In × List Rd × Bool) : PV := .tup [.agg (encIn x.1), encRds x.2.1, .bool x.2.2]
theorem sub_ky {k : Ky} {a b c : Int} (h : k = ⟨a, b, c⟩) : PSub (.agg [.int a, .int b, .int c]) (.agg (encKy k)) := by subst h; exact PSub.refl _
set_option maxRecDepth 20000
set_option maxHeartbeats 4000000
set_option linter.unusedSimpArgs false
attribute [local irreducible] PSub Wp PSpec Le Need Both
theorem key_spec (a b c d : Int) (hc : 0 ≤ c ∧ c < 4) (hd : 0 ≤ d ∧ d ≤ 1000000000000) : PSpec Try.prog 34 [.int a, .int b, .int c, .int d] (.agg (encKy (keyW a b c d))) := by
  refine PSpec.of_vc (fun Γ => more8 false Γ.P Γ.fx) (fun Γ => more8_ok) Try.func34 rfl Try.call34 (by simp) ?_
  rintro ⟨P, N, w0, X, β0, fx, y, hy, pk, df⟩ rfl rfl rfl hoff rfl; change y.on = false at hoff
  repeat' ((try conv => whnf); first | refine And.intro rfl ?_ | refine s4 nm ?_ | fail)
  exact PSub.refl _
theorem Key_spec (a b c d : Int) : PSpec Try.prog 16 [.int a, .int b, .int c, .int d] (.agg (encKy (keyP a b c d))) := by
  have q := subject_spec b c
  have hk : keyOK a b c d ↔ 0 ≤ a ∧ a < 16 ∧ 0 ≤ b ∧ b < 4096 ∧ 0 ≤ c ∧ c < 4 ∧ 0 ≤ d ∧ d < 12 := Iff.rfl
  have e0 : ¬ keyOK a b c d → keyP a b c d = ⟨0, 0, 0⟩ := fun h => if_neg h
  have e1 : keyOK a b c d → keyP a b c d = keyW a b c d := fun h => if_pos h
  by_cases hs : 0 ≤ b ∧ b < 4096 ∧ 0 ≤ c ∧ c < 4
  · rw [decide_eq_true hs] at q
    have q2 := fun h => key_spec a b c d ⟨hs.2.2.1, hs.2.2.2⟩ h
    refine PSpec.of_vc (fun Γ => more8 false Γ.P Γ.fx) (fun Γ => more8_ok) Try.func16 rfl Try.call16 (by simp) ?_
    rintro ⟨P, N, w0, X, β0, fx, y, hy, pk, df⟩ rfl rfl rfl hoff rfl; change y.on = false at hoff
    repeat' ((try conv => whnf); first | (first | refine k3 (fun hb => ?_) fun hb => ?_ | refine k4 (fun hb => ?_) fun hb => ?_) <;> (try rw [List.length_map] at hb) <;> (try (exfalso; omega; done)) | refine And.intro rfl ?_ | fail)
    · exact sub_ky (e0 (by rw [hk]; omega))
    · exact sub_ky (e0 (by rw [hk]; omega))
    · refine .inl ⟨_, q, ?_⟩
      repeat' ((try conv => whnf); first | (first | refine k3 (fun hb => ?_) fun hb => ?_ | refine k4 (fun hb => ?_) fun hb => ?_) <;> (try rw [List.length_map] at hb) <;> (try (exfalso; omega; done)) | refine And.intro rfl ?_ | fail)
      · exact sub_ky (e0 (by rw [hk]; omega))
      · exact sub_ky (e0 (by rw [hk]; omega))
      · refine .inl ⟨_, q2 (by omega), ?_⟩
        repeat' ((try conv => whnf); first | refine And.intro rfl ?_ | fail)
        rw [e1 (by rw [hk]; omega)]
        exact PSub.refl _
  · rw [decide_eq_false hs] at q
    refine PSpec.of_vc (fun Γ => more8 false Γ.P Γ.fx) (fun Γ => more8_ok) Try.func16 rfl Try.call16 (by simp) ?_
    rintro ⟨P, N, w0, X, β0, fx, y, hy, pk, df⟩ rfl rfl rfl hoff rfl; change y.on = false at hoff
    repeat' ((try conv => whnf); first | (first | refine k3 (fun hb => ?_) fun hb => ?_ | refine k4 (fun hb => ?_) fun hb => ?_) <;> (try rw [List.length_map] at hb) <;> (try (exfalso; omega; done)) | refine And.intro rfl ?_ | fail)
    · exact sub_ky (e0 (by rw [hk]; omega))
    · exact sub_ky (e0 (by rw [hk]; omega))
    · refine .inl ⟨_, q, ?_⟩
      repeat' ((try conv => whnf); first | refine And.intro rfl ?_ | fail)
      exact sub_ky (e0 (by rw [hk]; omega))
end Go.Proofs.Ytmaggokcjcdllaa
/- Records: At. Conditions: none. -/
namespace Go.Proofs.Ytmaggokcjcdllaa
open Go.Avc
def boxI (n : Int) : Option Blk := some (.box [.int n])
/-- The variables that the closure of At knows: 100 schema, 101 person, 102 item, 103 what was looked at, 104 day, 105 the world, 106 known, 107 the source. -/
def ctxA (w : Wd) (schema person item day kn : Int) (r : AV) : List (Nat × Option Blk) := [(100, boxI schema), (101, boxI person), (102, boxI item), (103, some (.box [r])), (104, boxI day), (105, some (.box (pures (encWd w)))), (106, boxI kn), (107, some (.box (pures (encSrc w.src))))]
set_option maxRecDepth 20000
set_option maxHeartbeats 4000000
set_option linter.unusedSimpArgs false
attribute [local irreducible] PSub Wp PSpec Le Need Both
attribute [local irreducible] atF valOK recOK
theorem look_spec (w : Wd) (hs : w.src.sz) (hf : w.facts.length ≤ 1000) (schema person item day kn : Int) (hi : 0 ≤ item ∧ item < 4) (hd : 0 ≤ day ∧ day < 1024) (rs : List Rd) (hr : rs.length ≤ 1000) (i : Nat) (hi2 : i ≤ 1000000) :
    GSpec Try.prog 33 9 ⟨numE 0 [.int ((i : Int) + 1), .loc 100 0 0, .loc 101 0 0, .loc 102 0 0, .loc 103 0 0, .loc 104 0 0, .loc 105 0 0, .loc 106 0 0, .loc 107 0 0], (200, some (.row 5 (rs.map encRd))) :: ctxA w schema person item day kn (.lsl 200 0 rs.length), [200, 100, 101, 102, 103, 104, 105, 106, 107]⟩ [100, 101, 102, 103, 104, 105, 106, 107] 2
      ⟨[(0, .int (lookW w schema person item day kn i).1), (1, .bool (lookW w schema person item day kn i).2)], (25, some (.row 5 ((rs ++ [readW schema person item day i]).map encRd))) :: ctxA w schema person item day kn (.lsl 25 0 (rs.length + 1)), [25, 100, 101, 102, 103, 104, 105, 106, 107]⟩ := by
  have q1 := key_spec schema person item ((i : Int) + 1) hi (by omega)
  have q2 := at_spec w.facts (keyW schema person item ((i : Int) + 1)) day kn (by omega)
  have hl : lookW w schema person item day kn i = ((atF w.facts (keyW schema person item (i + 1)) day kn).1, (atF w.facts (keyW schema person item (i + 1)) day kn).2 && valOK w.src schema (i + 1) (atF w.facts (keyW schema person item (i + 1)) day kn).1) := rfl
  obtain ⟨⟨v, b⟩, hx⟩ : ∃ x, x = atF w.facts (keyW schema person item ((i : Int) + 1)) day kn := ⟨_, rfl⟩
  rw [← hx] at q2 hl
  dsimp only at hl
  have q3 := value_spec w.src hs schema ((i : Int) + 1) v
  obtain ⟨o, ho⟩ : ∃ o, o = valOK w.src schema ((i : Int) + 1) v := ⟨_, rfl⟩
  rw [← ho] at q3 hl
  rw [hl]
  refine GSpec.of_vc (fun Γ => more8 false Γ.P Γ.fx) (fun Γ => more8_ok) Try.func33 rfl Try.call33 (by decide) ?_
  rintro ⟨P, N, w0, X, β0, fx, y, hy, pk, df⟩ rfl rfl rfl hoff rfl; change y.on = false at hoff
  skip
  refine .inl ⟨_, q1, ?_⟩
  repeat' ((try conv => whnf); first | refine And.intro rfl ?_ | refine s4 nm ?_ | refine And.intro bd ?_ | fail)
  refine .inl ⟨_, q2, ?_⟩
  repeat' ((try conv => whnf); first | refine k6 (fun hb => ?_) fun hb => ?_ | fail)
  · refine .inl ⟨_, q3, ?_⟩
    skip
    rw [show b = true by assumption]
    exact Le.of (by (repeat' (first | exact trivial | refine And.intro ?_ ?_ | exact Or.inl rfl | fail))) (by (repeat' (first | exact trivial | refine And.intro ?_ ?_ | refine Exists.intro _ (And.intro rfl ?_) | exact Or.inl rfl | exact SubA.lsl ls | fail)); all_goals first | (refine rowEq ?_; focus (simp; done)) | (refine rowEq ?_; focus (rw [List.map_append]; rfl)) | (refine SubA.lsl ?_; focus (simp; done))) rfl rfl rfl
  · rw [show b = false by assumption]
    exact Le.of (by (repeat' (first | exact trivial | refine And.intro ?_ ?_ | exact Or.inl rfl | fail))) (by (repeat' (first | exact trivial | refine And.intro ?_ ?_ | refine Exists.intro _ (And.intro rfl ?_) | exact Or.inl rfl | exact SubA.lsl ls | fail)); all_goals first | (refine rowEq ?_; focus (simp; done)) | (refine rowEq ?_; focus (rw [List.map_append]; rfl)) | (refine SubA.lsl ?_; focus (simp; done))) rfl rfl rfl
theorem ask_no {w : Wd} {a b c d : Int} (h : ¬ askOK w a b c d) (kn : Int) : atW w a b c d kn = (zeroIn, [], false) := if_neg h
def valsW (w : Wd) (schema person item day kn : Int) (k : Nat) : List Int := person :: (List.range k).map fun i => (lookW w schema person item day kn i).1
theorem valsW_succ (w : Wd) (a b c d kn : Int) (k : Nat) : valsW w a b c d kn (k + 1) = valsW w a b c d kn k ++ [(lookW w a b c d kn k).1] := by simp [valsW, List.range_succ]
def readsW (schema person item day : Int) (k : Nat) : List Rd := (List.range k).map (readW schema person item day)
theorem readsW_succ (a b c d : Int) (k : Nat) : readsW a b c d (k + 1) = readsW a b c d k ++ [readW a b c d k] := by simp [readsW, List.range_succ]
theorem readsW_len (a b c d : Int) (k : Nat) : (readsW a b c d k).length = k := by simp [readsW]
theorem valsW_len (w : Wd) (a b c d kn : Int) (k : Nat) : (valsW w a b c d kn k).length = k + 1 := by simp [valsW]
/-- Few facts, and few fields. -/
structure Wd.few (w : Wd) : Prop where
  sz : w.src.sz
  fa : w.facts.length ≤ 100
  sc : w.src.schemas.length ≤ 6
  fd : ∀ c ∈ w.src.schemas, c.fields.length ≤ 6
theorem zeroIn_sub : PSub (.agg [.val (.int .i64 0), .val (.int .i64 0), .val (.int .i64 0), .val (.slice none 0 0)]) (.agg (encIn zeroIn)) := PSub.agg ⟨PSub.refl _, PSub.refl _, PSub.refl _, PSub.nil 1, trivial⟩
theorem atw_spec (w : Wd) (hw : w.few) (schema person item day kn : Int) : PSpec Try.prog 12 [.agg (encWd w), .int schema, .int person, .int item, .int day, .int kn] (encAW (atW w schema person item day kn)) := by
  have q1 := recorded_spec w.src hw.sz schema
  have q2 := subject_spec person item
  have hno : ¬ askOK w schema person item day → PSub (.tup [.agg [.val (.int .i64 0), .val (.int .i64 0), .val (.int .i64 0), .val (.slice none 0 0)], .val (.slice none 0 0), .val (.bool false)]) (encAW (atW w schema person item day kn)) := fun h => by
    rw [ask_no h]
    exact PSub.tup ⟨zeroIn_sub, PSub.nil 5, PSub.refl _, trivial⟩
  obtain ⟨res, hres⟩ : ∃ r, r = atW w schema person item day kn := ⟨_, rfl⟩
  by_cases hr : recOK w.src schema = true
  · rw [hr] at q1
    by_cases hsu : 0 ≤ person ∧ person < 4096 ∧ 0 ≤ item ∧ item < 4
    · rw [decide_eq_true hsu] at q2
      by_cases hd : 0 ≤ day ∧ day < 1024
      · have hask : askOK w schema person item day := ⟨hr, hsu.1, hsu.2.1, hsu.2.2.1, hsu.2.2.2, hd⟩
        rcases rec_cases w.src schema with ⟨k, hk, rfl, h2, _⟩ | ⟨_, hrf⟩
        case inr => rw [hr] at hrf; cases hrf
        have hsl : (w.src.schemas.map encSc).length = w.src.schemas.length := List.length_map ..
        have hfl : (w.src.schemas[k].fields.map encFd).length = w.src.schemas[k].fields.length := List.length_map ..
        have h6 := hw.fd _ (List.getElem_mem hk)
        obtain ⟨n, hn⟩ : ∃ n, n = w.src.schemas[k].fields.length - 1 := ⟨_, rfl⟩
        have hnF : nF w.src k = n := by rw [nF_at hk, hn]
        rw [← hres]
        clear hno
        refine PSpec.of_vc (fun Γ => more8 false Γ.P Γ.fx) (fun Γ => more8_ok) Try.func12 rfl Try.call12 (by simp) ?_
        rintro ⟨P, N, w0, X, β0, fx, y, hy, pk, df⟩ rfl rfl rfl hoff rfl; change y.on = false at hoff
        repeat' ((try conv => whnf); first | refine And.intro rfl ?_ | fail)
        refine .inl ⟨_, q1, ?_⟩
        skip
        refine .inl ⟨_, q2, ?_⟩
        repeat' ((try conv => whnf); first | (first | refine k3 (fun hb => ?_) fun hb => ?_ | refine k4 (fun hb => ?_) fun hb => ?_) <;> (try rw [List.length_map] at hb) <;> (try (exfalso; omega; done)) | refine And.intro bd ?_ | fail)
        refine Wp.loop (fun i : Nat => ⟨[(7, .loc 7 0 0), (8, .loc 8 0 0), (9, .loc 9 0 0), (12, .loc 12 0 0), (13, .loc 13 0 0), (15, .loc 15 0 0), (16, .fn 33 [.loc 7 0 0, .loc 8 0 0, .loc 9 0 0, .loc 13 0 0, .loc 10 0 0, .loc 6 0 0, .loc 11 0 0, .loc 15 0 0]), (17, .lsl 45 0 (valsW w k person item day kn i).length), (18, .int ((i : Int) + 1))],
            [(7, boxI k), (8, boxI person), (9, boxI item), (12, some (.box [.int 0, .int 0, .int 0, .pure (.val (.slice none 0 0))])), (13, some (.box [.lsl 300 0 (readsW k person item day i).length])), (10, boxI day), (6, some (.box (pures (encWd w)))), (11, boxI kn), (15, some (.box (pures (encSrc w.src)))), (45, some (.row 1 ((valsW w k person item day kn i).map fun x => [PV.int x]))), (300, some (.row 5 ((readsW k person item day i).map encRd)))], [7, 8, 9, 12, 13, 10, 6, 11, 15, 45, 300]⟩)
          (fun i => i ≤ n ∧ ∀ j, j < i → (lookW w k person item day kn j).2 = true) (fun i => n - i) 0 (Le.trans (Le.virt (k := 300) (sz := 5) rfl rfl (by omega)) (Le.of ?_ ?_ rfl rfl rfl)) ⟨by omega, fun j h => by omega⟩ ?_
        · (repeat' (first | exact trivial | refine And.intro ?_ ?_ | exact Or.inl rfl | fail))
        · (repeat' (first | exact trivial | exact rfl | refine And.intro ?_ ?_ | refine Exists.intro _ (And.intro rfl ?_) | exact Or.inl rfl | exact l6 rfl | fail))
        intro i ⟨hi, hg⟩
        by_cases hi2 : i < n
        · have q := look_spec w hw.sz (by have := hw.fa; omega) k person item day kn hsu.2.2 hd (readsW k person item day i) (by rw [readsW_len]; omega) i (by omega)
          obtain ⟨⟨v, b⟩, hx⟩ : ∃ x, x = lookW w k person item day kn i := ⟨_, rfl⟩
          have hvs := valsW_succ w k person item day kn i
          rw [← hx] at q hvs
          have hvl := valsW_len w k person item day kn i
          have hrl := readsW_len k person item day i
          have hrs := readsW_succ k person item day i
          refine code_sound (more := more8 false _ _) more8_ok FOK.wide _ ?_
          repeat' ((try conv => whnf); first | (first | refine k3 (fun hb => ?_) fun hb => ?_ | refine k4 (fun hb => ?_) fun hb => ?_) <;> (try rw [List.length_map] at hb) <;> (try (exfalso; omega; done)) | refine s5 nm nm ?_ | fail)
          refine .inr ⟨[(200, 300), (25, 400), (100, 7), (101, 8), (102, 9), (103, 13), (104, 10), (105, 6), (106, 11), (107, 15)], [.int ((i : Int) + 1), .loc 100 0 0, .loc 101 0 0, .loc 102 0 0, .loc 103 0 0, .loc 104 0 0, .loc 105 0 0, .loc 106 0 0, .loc 107 0 0], (200, some (.row 5 ((readsW k person item day i).map encRd))) :: ctxA w k person item day kn (.lsl 200 0 (readsW k person item day i).length), [200, 100, 101, 102, 103, 104, 105, 106, 107], [100, 101, 102, 103, 104, 105, 106, 107], 2, _, q, ⟨Or.inl rfl, Or.inl rfl, Or.inl rfl, Or.inl rfl, Or.inl rfl, Or.inl rfl, Or.inl rfl, Or.inl rfl, Or.inl rfl, trivial⟩, ⟨rfl, rfl, rfl, rfl, rfl, rfl, rfl, rfl, rfl, trivial⟩, ?_⟩
          repeat' ((try conv => whnf); first | refine k5 (fun hb => ?_) fun hb => ?_ | refine s4 nm ?_ | refine And.intro bd ?_ | fail)
          · refine ⟨i + 1, Le.map [(45, 70), (300, 400)] ?_ ?_ rfl rfl rfl rfl, ⟨by omega, fun j hj => ?_⟩, by omega⟩
            · rw [hvs, hrs]
              (repeat' (first | exact trivial | refine And.intro ?_ ?_ | exact Or.inl rfl | exact SubA.lsl ls | fail))
            · rw [hvs, hrs]
              (repeat' (first | exact trivial | exact rfl | refine And.intro ?_ ?_ | refine Exists.intro _ (And.intro rfl ?_) | exact Or.inl rfl | exact SubA.lsl ls | exact rowEq rs | fail))
            · by_cases e : j = i
              · subst e; rw [← hx]; assumption
              · exact hg j (by omega)
          · have hgn : goodN (lookW w k person item day kn) n = i := goodN_bad hi2 (by rw [← hx]; assumption) hg
            have hfin : res = (zeroIn, readsW k person item day (i + 1), false) := by
              rw [hres, atW, if_pos hask, hnF, hgn, if_neg (by omega)]; rfl
            rw [hfin]
            refine Wp.draw (more := more8 true _ _) more8_det more8_ok FOK.wide rfl (by decide +kernel) (by conv => lhs; reduce) ?_
            repeat' ((try conv => whnf); first | refine And.intro rfl ?_ | fail)
            exact PSub.tup ⟨zeroIn_sub, sub_sl (by rw [List.drop_zero, List.take_of_length_le (by simp), hrs]), PSub.refl _, trivial⟩
        · have e : i = n := by omega
          subst e
          have hgn : goodN (lookW w k person item day kn) i = i := goodN_all hg
          have hfin : res = (⟨k, person, item, valsW w k person item day kn i⟩, readsW k person item day i, true) := by
            rw [hres, atW, if_pos hask, hnF, if_pos hgn]; rfl
          rw [hfin]
          refine code_sound (more := more8 false _ _) more8_ok FOK.wide _ ?_
          repeat' ((try conv => whnf); first | (first | refine k3 (fun hb => ?_) fun hb => ?_ | refine k4 (fun hb => ?_) fun hb => ?_) <;> (try rw [List.length_map] at hb) <;> (try (exfalso; omega; done)) | refine s5 nm nm ?_ | fail)
          refine Wp.draw (more := more8 true _ _) more8_det more8_ok FOK.wide rfl (by decide +kernel) (by conv => lhs; reduce) ?_
          repeat' ((try conv => whnf); first | refine And.intro rfl ?_ | fail)
          exact PSub.tup ⟨PSub.agg ⟨PSub.refl _, PSub.refl _, PSub.refl _, sub_sl (by rw [List.drop_zero, List.take_of_length_le (by simp)]), trivial⟩, sub_sl (by rw [List.drop_zero, List.take_of_length_le (by simp)]), PSub.refl _, trivial⟩
      · rw [← hres]
        rw [← hres] at hno
        refine PSpec.of_vc (fun Γ => more8 false Γ.P Γ.fx) (fun Γ => more8_ok) Try.func12 rfl Try.call12 (by simp) ?_
        rintro ⟨P, N, w0, X, β0, fx, y, hy, pk, df⟩ rfl rfl rfl hoff rfl; change y.on = false at hoff
        repeat' ((try conv => whnf); first | refine And.intro rfl ?_ | fail)
        refine .inl ⟨_, q1, ?_⟩
        skip
        refine .inl ⟨_, q2, ?_⟩
        repeat' ((try conv => whnf); first | (first | refine k3 (fun hb => ?_) fun hb => ?_ | refine k4 (fun hb => ?_) fun hb => ?_) <;> (try rw [List.length_map] at hb) <;> (try (exfalso; omega; done)) | refine And.intro rfl ?_ | fail)
        all_goals exact hno fun h => hd h.2.2.2.2.2
    · rw [decide_eq_false hsu] at q2
      rw [← hres]
      rw [← hres] at hno
      refine PSpec.of_vc (fun Γ => more8 false Γ.P Γ.fx) (fun Γ => more8_ok) Try.func12 rfl Try.call12 (by simp) ?_
      rintro ⟨P, N, w0, X, β0, fx, y, hy, pk, df⟩ rfl rfl rfl hoff rfl; change y.on = false at hoff
      repeat' ((try conv => whnf); first | refine And.intro rfl ?_ | fail)
      refine .inl ⟨_, q1, ?_⟩
      skip
      refine .inl ⟨_, q2, ?_⟩
      repeat' ((try conv => whnf); first | refine And.intro rfl ?_ | fail)
      exact hno fun h => hsu ⟨h.2.1, h.2.2.1, h.2.2.2.1, h.2.2.2.2.1⟩
  · rw [Bool.not_eq_true] at hr
    rw [hr] at q1
    rw [← hres]
    rw [← hres] at hno
    refine PSpec.of_vc (fun Γ => more8 false Γ.P Γ.fx) (fun Γ => more8_ok) Try.func12 rfl Try.call12 (by simp) ?_
    rintro ⟨P, N, w0, X, β0, fx, y, hy, pk, df⟩ rfl rfl rfl hoff rfl; change y.on = false at hoff
    repeat' ((try conv => whnf); first | refine And.intro rfl ?_ | fail)
    refine .inl ⟨_, q1, ?_⟩
    repeat' ((try conv => whnf); first | refine And.intro rfl ?_ | fail)
    exact hno fun h => by have h1 := h.1; rw [hr] at h1; cases h1
end Go.Proofs.Ytmaggokcjcdllaa
/- Records: the reference's At. Conditions: none. -/

namespace Go.Proofs.Ytmaggokcjcdllaa
open Go.Avc
set_option maxRecDepth 20000
set_option maxHeartbeats 4000000
set_option linter.unusedSimpArgs false
attribute [local irreducible] PSub Wp PSpec Le Need Both
attribute [local irreducible] atF valOK recOK
end Go.Proofs.Ytmaggokcjcdllaa
