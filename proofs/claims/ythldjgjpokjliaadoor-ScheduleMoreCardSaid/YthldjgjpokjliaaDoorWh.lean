/- Schedules: stocks and needs, and when they are valid. Conditions: none. -/
import Derived.Test.YthldjgjpokjliaaDoorWd
import Derived.Test.YthldjgjpokjliaaDoorWe
import Derived.Test.YthldjgjpokjliaaDoorRows
import Derived.Laws.Bits64b
import Derived.Lib.TrailingZeros
set_option linter.unusedSimpArgs false
set_option linter.unusedVariables false
set_option maxRecDepth 20000
set_option maxHeartbeats 4000000
namespace Go.Proofs.YthldjgjpokjliaaDoor
open Go.Avc
def encIs (l : List Int) : PV := .sl 1 (l.map fun x => [PV.int x])
def ints (l : List Int) : List (List PV) := l.map fun x => [PV.int x]
structure Sk where
 (round copies size : Int)
def encSk (s : Sk) : List PV := [.int s.round, .int s.copies, .int s.size]
structure Nd where
 (from_ to floor : Int) (rounds : List Int)
def encNd (n : Nd) : List PV := [.int n.from_, .int n.to, .int n.floor, encIs n.rounds]
def encSks (l : List Sk) : PV := .sl 3 (l.map encSk)
def encNds (l : List Nd) : PV := .sl 4 (l.map encNd)
theorem sub_bool {a b : Bool} (h : a = b) : PSub (.val (.bool a)) (.bool b) := by rw [h]; exact PSub.refl _
theorem getD_at {α : Type} {l : List α} {i : Nat} (h : i < l.length) (d : α) : l.getD i d = l[i] := by simp [List.getD, h]
def incT (l : List Int) (i : Nat) : Prop := ∀ j (h : j < l.length), j < i → 0 ≤ l[j] ∧ l[j] < 64 ∧ ∀ (h0 : 0 < j), l[j - 1] < l[j]
def incP (l : List Int) : Prop := incT l l.length
def incB (l : List Int) : Bool := (List.range l.length).all fun j => decide (0 ≤ l.getD j 0 ∧ l.getD j 0 < 64 ∧ (0 < j → l.getD (j - 1) 0 < l.getD j 0))
theorem incB_iff (l : List Int) : incB l = true ↔ incP l := by
 unfold incB incP incT
 rw [List.all_eq_true]
 constructor
 · intro h j hj _
   have := of_decide_eq_true (h j (List.mem_range.2 hj))
   rw [getD_at hj] at this
   refine ⟨this.1, this.2.1, fun h0 => ?_⟩
   have h2 := this.2.2 h0
   rwa [getD_at (by omega : j - 1 < l.length)] at h2
 · intro h j hj
   have hj := List.mem_range.1 hj
   obtain ⟨h1, h2, h3⟩ := h j hj hj
   refine decide_eq_true ?_
   rw [getD_at hj]
   refine ⟨h1, h2, fun h0 => ?_⟩
   rw [getD_at (by omega : j - 1 < l.length)]
   exact h3 h0
instance (l : List Int) : Decidable (incP l) := decidable_of_iff _ (incB_iff l)
def ndP (n : Nd) : Prop := 0 ≤ n.from_ ∧ n.from_ < n.to ∧ n.to ≤ 1024 ∧ 0 ≤ n.floor ∧ incP n.rounds
instance (n : Nd) : Decidable (ndP n) := by unfold ndP; infer_instance
def skP (s : Sk) : Prop := 0 ≤ s.copies ∧ s.copies ≤ 16 ∧ 0 ≤ s.size
instance (s : Sk) : Decidable (skP s) := by unfold skP; infer_instance
def chkP (S : List Sk) (D : List Nd) : Prop := S.length ≤ 64 ∧ D.length ≤ 16 ∧ (∀ s ∈ S, skP s) ∧ incP (S.map Sk.round) ∧ ∀ n ∈ D, ndP n
instance (S : List Sk) (D : List Nd) : Decidable (chkP S D) := by unfold chkP; infer_instance
def chkE (S : List Sk) (D : List Nd) : Int := if chkP S D then 0 else 320
def lastI (l : List Int) (i : Nat) : Int := if i = 0 then -1 else l.getD (i - 1) 0
theorem inc_low {l : List Int} (h : incP l) : ∀ x ∈ l, 0 ≤ x ∧ x < 64 := fun x hx => by
 obtain ⟨j, hj, rfl⟩ := List.getElem_of_mem hx
 exact ⟨(h j hj hj).1, (h j hj hj).2.1⟩
theorem inc_pair {l : List Int} (h : incP l) : l.Pairwise (· < ·) := by
 have inc : ∀ d i (hi : i + d + 1 < l.length), l[i] < l[i + d + 1] := by
   intro d
   induction d with
   | zero =>
     intro i hi
     have := (h (i + 1) hi hi).2.2 (by omega)
     simpa using this
   | succ d ih =>
     intro i hi
     have a := ih i (by omega)
     have b := (h (i + d + 1 + 1) (by omega) (by omega)).2.2 (by omega)
     have e : i + (d + 1) + 1 = i + d + 1 + 1 := by omega
     simp only [Nat.add_sub_cancel] at b
     simp only [e]
     omega
 rw [List.pairwise_iff_getElem]
 intro i j hi hj hij
 obtain ⟨d, rfl⟩ : ∃ d, j = i + d + 1 := ⟨j - i - 1, by omega⟩
 exact inc d i hj
attribute [local irreducible] PSub Wp PSpec Le Need Both
theorem increasing_spec (l : List Int) (hl : l.length ≤ 140737488355328) : PSpec Tryd.prog 27 [encIs l] (.bool (decide (incP l))) := by
 have lL : (l.map fun x => [PV.int x]).length = l.length := List.length_map ..
 refine PSpec.of_vc (fun Γ => more8 false Γ.P Γ.fx) (fun Γ => more8_ok) Tryd.func27 rfl Tryd.call27 (by simp) ?_
 rintro ⟨P, N, w0, X, β0, fx, y, hy, pk, df⟩ rfl rfl rfl hoff rfl; change y.on = false at hoff
 skip
 refine Wp.loop (fun i : Nat => ⟨[(3, .int (lastI l i)), (6, .pure (encIs l)), (7, .int l.length), (8, .int i)], [], []⟩) (fun i => i ≤ l.length ∧ incT l i) (fun i => l.length - i) 0 (Le.of ?_ ?_ rfl rfl rfl) ⟨Nat.zero_le _, fun j _ h => by omega⟩ ?_
 · (repeat' (first|exact trivial|refine aq ?_ ?_|exact oq|exact l1 bd|fail))
 · (repeat' (first|exact trivial|fail))
 rintro i ⟨hi, ho⟩
 by_cases hi2 : i < l.length
 · have hnx : lastI l (i + 1) = l[i] := by unfold lastI; rw [if_neg (by omega), Nat.add_sub_cancel, getD_at hi2]
   have hla : (0 < i → lastI l i = l[i - 1]) ∧ -1 ≤ lastI l i := by
     unfold lastI
     by_cases h0 : i = 0
     · rw [if_pos h0]; exact ⟨fun h => by omega, by omega⟩
     · rw [if_neg h0, getD_at (by omega : i - 1 < l.length)]
       have := (ho (i - 1) (by omega) (by omega)).1
       exact ⟨fun _ => rfl, by omega⟩
   have hl0 : i = 0 → lastI l i = -1 := fun h => by unfold lastI; rw [if_pos h]
   obtain ⟨la, hd⟩ : ∃ la, la = lastI l i := ⟨_, rfl⟩
   rw [← hd] at hla hl0 ⊢
   by_cases h1 : l[i] ≤ la
   · rw [decide_eq_false (fun h : incP l => by
       obtain ⟨g1, g2, g3⟩ := h i hi2 hi2
       by_cases h0 : i = 0
       · have := hl0 h0; omega
       · have := hla.1 (by omega); have := g3 (by omega); omega)]
     refine code_sound (more := more8 false _ _) more8_ok FOK.wide _ ?_
     repeat' ((try conv => whnf); first|(first|refine k3 ?_ ?_|refine k4 ?_ ?_) <;> intro hb <;> (try rw [lM] at hb) <;> try (exfalso; omega)|refine s5 nm nm ?_|fail)
     exact PSub.refl _
   by_cases h2 : 64 ≤ l[i]
   · rw [decide_eq_false (fun h : incP l => by have := (h i hi2 hi2).2.1; omega)]
     refine code_sound (more := more8 false _ _) more8_ok FOK.wide _ ?_
     repeat' ((try conv => whnf); first|(first|refine k3 ?_ ?_|refine k4 ?_ ?_) <;> intro hb <;> (try rw [lM] at hb) <;> try (exfalso; omega)|refine s5 nm nm ?_|fail)
     exact PSub.refl _
   refine code_sound (more := more8 false _ _) more8_ok FOK.wide _ ?_
   repeat' ((try conv => whnf); first|(first|refine k3 ?_ ?_|refine k4 ?_ ?_) <;> intro hb <;> (try rw [lM] at hb) <;> try (exfalso; omega)|refine s4 nm ?_|refine s5 nm nm ?_|fail)
   refine ⟨i + 1, Le.of ?_ (by (repeat' (first|exact trivial|fail))) rfl rfl rfl, ⟨by omega, fun j hj hji => ?_⟩, by omega⟩
   · rw [hnx]
     (repeat' (first|exact trivial|refine aq ?_ ?_|exact oq|fail))
   · rcases Nat.lt_succ_iff_lt_or_eq.1 hji with hji | rfl
     · exact ho j hj hji
     · exact ⟨by omega, by omega, fun h0 => by have := hla.1 h0; omega⟩
 · have e : i = l.length := by omega
   subst e
   rw [decide_eq_true (show incP l from ho)]
   refine code_sound (more := more8 false _ _) more8_ok FOK.wide _ ?_
   repeat' ((try conv => whnf); first|(first|refine k3 ?_ ?_|refine k4 ?_ ?_) <;> intro hb <;> (try rw [lM] at hb) <;> try (exfalso; omega)|fail)
   exact PSub.refl _
theorem needOK_spec (n : Nd) (hl : n.rounds.length ≤ 140737488355328) : PSpec Tryd.prog 30 [.agg (encNd n)] (.bool (decide (ndP n))) := by
 have q := increasing_spec n.rounds hl
 by_cases h1 : 0 ≤ n.from_
 case neg =>
   rw [decide_eq_false (fun h : ndP n => h1 h.1)]
   refine PSpec.of_vc (fun Γ => more8 false Γ.P Γ.fx) (fun Γ => more8_ok) Tryd.func30 rfl Tryd.call30 (by simp) ?_
   rintro ⟨P, N, w0, X, β0, fx, y, hy, pk, df⟩ rfl rfl rfl hoff rfl; change y.on = false at hoff
   repeat' ((try conv => whnf); first|(first|refine k3 ?_ ?_|refine k4 ?_ ?_) <;> intro hb <;> (try rw [lM] at hb) <;> try (exfalso; omega)|fail)
   exact PSub.refl _
 by_cases h2 : n.from_ < n.to
 case neg =>
   rw [decide_eq_false (fun h : ndP n => h2 h.2.1)]
   refine PSpec.of_vc (fun Γ => more8 false Γ.P Γ.fx) (fun Γ => more8_ok) Tryd.func30 rfl Tryd.call30 (by simp) ?_
   rintro ⟨P, N, w0, X, β0, fx, y, hy, pk, df⟩ rfl rfl rfl hoff rfl; change y.on = false at hoff
   repeat' ((try conv => whnf); first|(first|refine k3 ?_ ?_|refine k4 ?_ ?_) <;> intro hb <;> (try rw [lM] at hb) <;> try (exfalso; omega)|fail)
   exact PSub.refl _
 by_cases h3 : n.to ≤ 1024
 case neg =>
   rw [decide_eq_false (fun h : ndP n => h3 h.2.2.1)]
   refine PSpec.of_vc (fun Γ => more8 false Γ.P Γ.fx) (fun Γ => more8_ok) Tryd.func30 rfl Tryd.call30 (by simp) ?_
   rintro ⟨P, N, w0, X, β0, fx, y, hy, pk, df⟩ rfl rfl rfl hoff rfl; change y.on = false at hoff
   repeat' ((try conv => whnf); first|(first|refine k3 ?_ ?_|refine k4 ?_ ?_) <;> intro hb <;> (try rw [lM] at hb) <;> try (exfalso; omega)|fail)
   exact PSub.refl _
 by_cases h4 : 0 ≤ n.floor
 case neg =>
   rw [decide_eq_false (fun h : ndP n => h4 h.2.2.2.1)]
   refine PSpec.of_vc (fun Γ => more8 false Γ.P Γ.fx) (fun Γ => more8_ok) Tryd.func30 rfl Tryd.call30 (by simp) ?_
   rintro ⟨P, N, w0, X, β0, fx, y, hy, pk, df⟩ rfl rfl rfl hoff rfl; change y.on = false at hoff
   repeat' ((try conv => whnf); first|(first|refine k3 ?_ ?_|refine k4 ?_ ?_) <;> intro hb <;> (try rw [lM] at hb) <;> try (exfalso; omega)|fail)
   exact PSub.refl _
 refine PSpec.of_vc (fun Γ => more8 false Γ.P Γ.fx) (fun Γ => more8_ok) Tryd.func30 rfl Tryd.call30 (by simp) ?_
 rintro ⟨P, N, w0, X, β0, fx, y, hy, pk, df⟩ rfl rfl rfl hoff rfl; change y.on = false at hoff
 repeat' ((try conv => whnf); first|(first|refine k3 ?_ ?_|refine k4 ?_ ?_) <;> intro hb <;> (try rw [lM] at hb) <;> try (exfalso; omega)|fail)
 refine .inl ⟨_, q, ?_⟩
 skip
 exact sub_bool (decide_eq_decide.2 ⟨fun h => ⟨h1, h2, h3, h4, h⟩, fun h => h.2.2.2.2⟩)
theorem check1_spec (n : Nd) (hl : n.rounds.length ≤ 140737488355328) : PSpec Tryd.prog 29 [.agg (encNd n)] (.bool (!decide (ndP n))) := by
 have q := needOK_spec n hl
 refine PSpec.of_vc (fun Γ => more8 false Γ.P Γ.fx) (fun Γ => more8_ok) Tryd.func29 rfl Tryd.call29 (by simp) ?_
 rintro ⟨P, N, w0, X, β0, fx, y, hy, pk, df⟩ rfl rfl rfl hoff rfl; change y.on = false at hoff
 skip
 refine .inl ⟨_, q, ?_⟩
 skip
 exact PSub.refl _
theorem rneed_spec (n : Nd) (hl : n.rounds.length ≤ 140737488355328) : PSpec Tryd.prog 31 [.agg (encNd n)] (.bool (decide (ndP n))) := by
 have lL : (n.rounds.map fun x => [PV.int x]).length = n.rounds.length := List.length_map ..
 by_cases hc : 0 ≤ n.from_ ∧ n.from_ < n.to ∧ n.to ≤ 1024 ∧ 0 ≤ n.floor
 case neg =>
   rw [decide_eq_false (fun h : ndP n => hc ⟨h.1, h.2.1, h.2.2.1, h.2.2.2.1⟩)]
   by_cases h1 : 0 ≤ n.from_
   case neg =>
     refine PSpec.of_vc (fun Γ => more8 false Γ.P Γ.fx) (fun Γ => more8_ok) Tryd.func31 rfl Tryd.call31 (by simp) ?_
     rintro ⟨P, N, w0, X, β0, fx, y, hy, pk, df⟩ rfl rfl rfl hoff rfl; change y.on = false at hoff
     repeat' ((try conv => whnf); first|(first|refine k3 ?_ ?_|refine k4 ?_ ?_) <;> intro hb <;> (try rw [lM] at hb) <;> try (exfalso; omega)|fail)
     exact PSub.refl _
   by_cases h2 : n.from_ < n.to
   case neg =>
     refine PSpec.of_vc (fun Γ => more8 false Γ.P Γ.fx) (fun Γ => more8_ok) Tryd.func31 rfl Tryd.call31 (by simp) ?_
     rintro ⟨P, N, w0, X, β0, fx, y, hy, pk, df⟩ rfl rfl rfl hoff rfl; change y.on = false at hoff
     repeat' ((try conv => whnf); first|(first|refine k3 ?_ ?_|refine k4 ?_ ?_) <;> intro hb <;> (try rw [lM] at hb) <;> try (exfalso; omega)|fail)
     exact PSub.refl _
   by_cases h3 : n.to ≤ 1024
   case neg =>
     refine PSpec.of_vc (fun Γ => more8 false Γ.P Γ.fx) (fun Γ => more8_ok) Tryd.func31 rfl Tryd.call31 (by simp) ?_
     rintro ⟨P, N, w0, X, β0, fx, y, hy, pk, df⟩ rfl rfl rfl hoff rfl; change y.on = false at hoff
     repeat' ((try conv => whnf); first|(first|refine k3 ?_ ?_|refine k4 ?_ ?_) <;> intro hb <;> (try rw [lM] at hb) <;> try (exfalso; omega)|fail)
     exact PSub.refl _
   refine PSpec.of_vc (fun Γ => more8 false Γ.P Γ.fx) (fun Γ => more8_ok) Tryd.func31 rfl Tryd.call31 (by simp) ?_
   rintro ⟨P, N, w0, X, β0, fx, y, hy, pk, df⟩ rfl rfl rfl hoff rfl; change y.on = false at hoff
   repeat' ((try conv => whnf); first|(first|refine k3 ?_ ?_|refine k4 ?_ ?_) <;> intro hb <;> (try rw [lM] at hb) <;> try (exfalso; omega)|fail)
   exact PSub.refl _
 obtain ⟨c1, c2, c3, c4⟩ := hc
 refine PSpec.of_vc (fun Γ => more8 false Γ.P Γ.fx) (fun Γ => more8_ok) Tryd.func31 rfl Tryd.call31 (by simp) ?_
 rintro ⟨P, N, w0, X, β0, fx, y, hy, pk, df⟩ rfl rfl rfl hoff rfl; change y.on = false at hoff
 repeat' ((try conv => whnf); first|(first|refine k3 ?_ ?_|refine k4 ?_ ?_) <;> intro hb <;> (try rw [lM] at hb) <;> try (exfalso; omega)|fail)
 refine Wp.loop (fun i : Nat => ⟨[(1, .loc 1 0 0), (3, .int i)], [(1, some (.box (pures (encNd n))))], [1]⟩) (fun i => i ≤ n.rounds.length ∧ incT n.rounds i) (fun i => n.rounds.length - i) 0 (Le.of ?_ ?_ rfl rfl rfl) ⟨Nat.zero_le _, fun j _ h => by omega⟩ ?_
 · (repeat' (first|exact trivial|refine aq ?_ ?_|exact oq|fail))
 · (repeat' (first|exact trivial|refine aq ?_ ?_|refine Exists.intro _ (aq rfl ?_)|exact oq|fail))
 rintro i ⟨hi, ho⟩
 by_cases hi2 : i < n.rounds.length
 · have no : ¬ (0 ≤ n.rounds[i] ∧ n.rounds[i] < 64 ∧ ∀ (h0 : 0 < i), n.rounds[i - 1] < n.rounds[i]) → decide (ndP n) = false := fun h => decide_eq_false fun h' => h (h'.2.2.2.2 i hi2 hi2)
   by_cases h1 : n.rounds[i] < 0
   · rw [no (fun h => by omega)]
     refine code_sound (more := more8 false _ _) more8_ok FOK.wide _ ?_
     repeat' ((try conv => whnf); first|(first|refine k3 ?_ ?_|refine k4 ?_ ?_) <;> intro hb <;> (try rw [lM] at hb) <;> try (exfalso; omega)|fail)
     refine Wp.draw (more := more8 true _ _) more8_det more8_ok FOK.wide rfl (by decide +kernel) (by conv => lhs; reduce) ?_
     repeat' ((try conv => whnf); first|(first|refine k3 ?_ ?_|refine k4 ?_ ?_) <;> intro hb <;> (try rw [lM] at hb) <;> try (exfalso; omega)|refine s5 nm nm ?_|fail)
     exact PSub.refl _
   by_cases h2 : 64 ≤ n.rounds[i]
   · rw [no (fun h => by omega)]
     refine code_sound (more := more8 false _ _) more8_ok FOK.wide _ ?_
     repeat' ((try conv => whnf); first|(first|refine k3 ?_ ?_|refine k4 ?_ ?_) <;> intro hb <;> (try rw [lM] at hb) <;> try (exfalso; omega)|fail)
     refine Wp.draw (more := more8 true _ _) more8_det more8_ok FOK.wide rfl (by decide +kernel) (by conv => lhs; reduce) ?_
     repeat' ((try conv => whnf); first|(first|refine k3 ?_ ?_|refine k4 ?_ ?_) <;> intro hb <;> (try rw [lM] at hb) <;> try (exfalso; omega)|refine s5 nm nm ?_|fail)
     exact PSub.refl _
   by_cases h0 : i = 0
   · have hgood : incT n.rounds (i + 1) := fun j hj hji => by
       rcases Nat.lt_succ_iff_lt_or_eq.1 hji with hji | rfl
       · exact ho j hj hji
       · exact ⟨by omega, by omega, fun h => by omega⟩
     refine code_sound (more := more8 false _ _) more8_ok FOK.wide _ ?_
     repeat' ((try conv => whnf); first|(first|refine k3 ?_ ?_|refine k4 ?_ ?_) <;> intro hb <;> (try rw [lM] at hb) <;> try (exfalso; omega)|fail)
     refine Wp.draw (more := more8 true _ _) more8_det more8_ok FOK.wide rfl (by decide +kernel) (by conv => lhs; reduce) ?_
     repeat' ((try conv => whnf); first|(first|refine k3 ?_ ?_|refine k4 ?_ ?_) <;> intro hb <;> (try rw [lM] at hb) <;> try (exfalso; omega)|refine s4 nm ?_|refine s5 nm nm ?_|fail)
     exact ⟨i + 1, Le.of (by (repeat' (first|exact trivial|refine aq ?_ ?_|exact oq|fail))) (by (repeat' (first|exact trivial|refine aq ?_ ?_|refine Exists.intro _ (aq rfl ?_)|exact oq|fail))) rfl rfl rfl, ⟨by omega, hgood⟩, by omega⟩
   have ew : IntKind.i64.wrap ((i : Int) - 1) = (i : Int) - 1 := by rw [IntKind.wrap_i64]; omega
   have en : ((i : Int) - 1).toNat = i - 1 := by omega
   have hpt : ((i : Int) - 1).toNat < n.rounds.length := by omega
   have hE : n.rounds[((i : Int) - 1).toNat] = n.rounds[i - 1] := by simp only [en]
   by_cases h3 : n.rounds[i] ≤ n.rounds[((i : Int) - 1).toNat]
   · rw [no (fun h => by have := h.2.2 (by omega); omega)]
     refine code_sound (more := more8 false _ _) more8_ok FOK.wide _ ?_
     repeat' ((try conv => whnf); first|(first|refine k3 ?_ ?_|refine k4 ?_ ?_) <;> intro hb <;> (try rw [lM] at hb) <;> try (exfalso; omega)|fail)
     refine Wp.draw (more := more8 true _ _) more8_det more8_ok FOK.wide rfl (by decide +kernel) (by conv => lhs; reduce) ?_
     repeat' ((try conv => whnf); first|(first|refine k3 ?_ ?_|refine k4 ?_ ?_) <;> intro hb <;> (try rw [lM] at hb) <;> try (exfalso; omega)|refine s4 nm ?_|refine s5 nm nm ?_|refine s6 nm nm ?_|fail)
     exact PSub.refl _
   have hgood : incT n.rounds (i + 1) := fun j hj hji => by
     rcases Nat.lt_succ_iff_lt_or_eq.1 hji with hji | rfl
     · exact ho j hj hji
     · exact ⟨by omega, by omega, fun h => by omega⟩
   refine code_sound (more := more8 false _ _) more8_ok FOK.wide _ ?_
   repeat' ((try conv => whnf); first|(first|refine k3 ?_ ?_|refine k4 ?_ ?_) <;> intro hb <;> (try rw [lM] at hb) <;> try (exfalso; omega)|fail)
   refine Wp.draw (more := more8 true _ _) more8_det more8_ok FOK.wide rfl (by decide +kernel) (by conv => lhs; reduce) ?_
   repeat' ((try conv => whnf); first|(first|refine k3 ?_ ?_|refine k4 ?_ ?_) <;> intro hb <;> (try rw [lM] at hb) <;> try (exfalso; omega)|refine s4 nm ?_|refine s5 nm nm ?_|refine s6 nm nm ?_|fail)
   exact ⟨i + 1, Le.of (by (repeat' (first|exact trivial|refine aq ?_ ?_|exact oq|fail))) (by (repeat' (first|exact trivial|refine aq ?_ ?_|refine Exists.intro _ (aq rfl ?_)|exact oq|fail))) rfl rfl rfl, ⟨by omega, hgood⟩, by omega⟩
 · have e : i = n.rounds.length := by omega
   subst e
   rw [decide_eq_true (show ndP n from ⟨c1, c2, c3, c4, ho⟩)]
   refine code_sound (more := more8 false _ _) more8_ok FOK.wide _ ?_
   repeat' ((try conv => whnf); first|(first|refine k3 ?_ ?_|refine k4 ?_ ?_) <;> intro hb <;> (try rw [lM] at hb) <;> try (exfalso; omega)|fail)
   exact PSub.refl _
end Go.Proofs.YthldjgjpokjliaaDoor
/- Schedules: bits of sets; lists that are searched; Check. Conditions: none. -/
namespace Go.Proofs.YthldjgjpokjliaaDoor
open Go.Avc
def dif (a b : Nat) : Nat := a ^^^ (a &&& b)
theorem dif_bit (a b r : Nat) : (dif a b).testBit r = (a.testBit r && !b.testBit r) := by
 unfold dif
 rw [Nat.testBit_xor, Nat.testBit_and]
 cases a.testBit r <;> cases b.testBit r <;> rfl
theorem dif_lt {a b : Nat} (ha : a < 18446744073709551616) : dif a b < 18446744073709551616 := by
 unfold dif
 exact Nat.xor_lt_two_pow (n := 64) (by omega) (Nat.lt_of_le_of_lt Nat.and_le_left (by omega))
theorem bits_andNot (a b : Nat) (ha : a < 18446744073709551616) (hb : b < 18446744073709551616) : bits .andNot .u64 (a : Int) (b : Int) = ((dif a b : Nat) : Int) := by
 have hx := dif_lt (b := b) ha
 have h1 : (BitVec.ofInt 64 (a : Int)).toNat = a := by
   rw [BitVec.ofInt_natCast, BitVec.toNat_ofNat]; exact Nat.mod_eq_of_lt (by omega)
 have h2 : (BitVec.ofInt 64 (b : Int)).toNat = b := by
   rw [BitVec.ofInt_natCast, BitVec.toNat_ofNat]; exact Nat.mod_eq_of_lt (by omega)
 show IntKind.u64.wrap ((BitVec.ofInt 64 (a : Int) &&& ~~~ BitVec.ofInt 64 (b : Int)).toNat : Int) = _
 have e : BitVec.ofInt 64 (a : Int) &&& ~~~ BitVec.ofInt 64 (b : Int) = BitVec.ofInt 64 (a : Int) ^^^ (BitVec.ofInt 64 (a : Int) &&& BitVec.ofInt 64 (b : Int)) := by
   apply BitVec.eq_of_getLsbD_eq
   intro i hi
   simp only [BitVec.getLsbD_and, BitVec.getLsbD_not, BitVec.getLsbD_xor, hi, decide_true, Bool.true_and]
   cases (BitVec.ofInt 64 (a : Int)).getLsbD i <;> cases (BitVec.ofInt 64 (b : Int)).getLsbD i <;> rfl
 rw [e, BitVec.toNat_xor, BitVec.toNat_and, h1, h2, wrap_u64]
 show ((dif a b : Nat) : Int) % _ = _
 omega
theorem shl_u64 (n : Nat) (hn : n < 64) : IntKind.u64.wrap (1 * 2 ^ (min (n : Int).toNat IntKind.u64.bits)) = ((2 ^ n : Nat) : Int) := by
 have e : min (n : Int).toNat IntKind.u64.bits = n := by
   have : IntKind.u64.bits = 64 := rfl
   rw [this, Int.toNat_natCast]; omega
 have h : 2 ^ n < 2 ^ 64 := Nat.pow_lt_pow_right (by decide) hn
 rw [e, wrap_u64, Int.one_mul]
 have e2 : ((2 : Int) ^ n) = ((2 ^ n : Nat) : Int) := by simp
 rw [e2]
 generalize (2 ^ n : Nat) = m at h ⊢
 have h : m < 18446744073709551616 := h
 omega
theorem or_bit (a b r : Nat) : (a ||| b).testBit r = (a.testBit r || b.testBit r) := Nat.testBit_or ..
theorem pow_bit (n r : Nat) : (2 ^ n).testBit r = decide (n = r) := Nat.testBit_two_pow
theorem or_lt {a b : Nat} (ha : a < 18446744073709551616) (hb : b < 18446744073709551616) : a ||| b < 18446744073709551616 := Nat.or_lt_two_pow (n := 64) (by omega) (by omega)
theorem pow_lt {n : Nat} (h : n < 64) : 2 ^ n < 18446744073709551616 := Nat.pow_lt_pow_right (by decide) h
def ixI {α : Type} (p : α → Bool) (l : List α) : Int := ((l.findIdx? p).map fun i => (i : Int)).getD (-1)
theorem ixI_at {α : Type} {p : α → Bool} {l : List α} {i : Nat} (h : i < l.length) (hp : p l[i] = true) (ho : ∀ j (hj : j < l.length), j < i → p l[j] = false) : ixI p l = i := by
 unfold ixI
 have : l.findIdx? p = some i := List.findIdx?_eq_some_iff_getElem.2 ⟨h, hp, fun j hj => by have := ho j (by omega) hj; simp [this]⟩
 rw [this]; rfl
theorem ixI_no {α : Type} {p : α → Bool} {l : List α} (ho : ∀ j (hj : j < l.length), p l[j] = false) : ixI p l = -1 := by
 unfold ixI
 have : l.findIdx? p = none := List.findIdx?_eq_none_iff.2 fun x hx => by
   obtain ⟨j, hj, rfl⟩ := List.getElem_of_mem hx
   exact ho j hj
 rw [this]; rfl
theorem ixI_any {α : Type} {p : α → Bool} {l : List α} : decide (0 ≤ ixI p l) = l.any p := by
 unfold ixI
 cases h : l.findIdx? p with
 | none =>
   rw [List.findIdx?_eq_none_iff] at h
   have : l.any p = false := List.any_eq_false.2 fun x hx => by simp [h x hx]
   rw [this]; rfl
 | some i =>
   obtain ⟨hi, hp, _⟩ := List.findIdx?_eq_some_iff_getElem.1 h
   have : l.any p = true := List.any_eq_true.2 ⟨_, List.getElem_mem hi, hp⟩
   rw [this]
   exact decide_eq_true (by show (0 : Int) ≤ ((i : Nat) : Int); omega)
attribute [local irreducible] PSub Wp PSpec Le Need Both
theorem index_spec (l : List Int) (v : Int) (hl : l.length ≤ 140737488355328) : PSpec Tryd.prog 55 [encIs l, .int v] (.int (ixI (fun x => decide (v = x)) l)) := by
 have lL : (l.map fun x => [PV.int x]).length = l.length := List.length_map ..
 refine PSpec.of_vc (fun Γ => more8 false Γ.P Γ.fx) (fun Γ => more8_ok) Tryd.func55 rfl Tryd.call55 (by simp) ?_
 rintro ⟨P, N, w0, X, β0, fx, y, hy, pk, df⟩ rfl rfl rfl hoff rfl; change y.on = false at hoff
 skip
 refine Wp.loop (fun i : Nat => ⟨[(0, .pure (encIs l)), (1, .int v), (7, .int l.length), (8, .int i)], [], []⟩) (fun i => i ≤ l.length ∧ ∀ j (hj : j < l.length), j < i → decide (v = l[j]) = false) (fun i => l.length - i) 0 (Le.of ?_ ?_ rfl rfl rfl) ⟨Nat.zero_le _, fun j _ h => by omega⟩ ?_
 · (repeat' (first|exact trivial|refine aq ?_ ?_|exact oq|exact l1 bd|fail))
 · (repeat' (first|exact trivial|fail))
 rintro i ⟨hi, ho⟩
 by_cases hi2 : i < l.length
 · by_cases hv : v = l[i]
   · rw [ixI_at hi2 (decide_eq_true hv) ho]
     refine code_sound (more := more8 false _ _) more8_ok FOK.wide _ ?_
     repeat' ((try conv => whnf); first|(first|refine k3 ?_ ?_|refine k4 ?_ ?_) <;> intro hb <;> (try rw [lM] at hb) <;> try (exfalso; omega)|refine s5 nm nm ?_|fail)
     exact PSub.refl _
   · refine code_sound (more := more8 false _ _) more8_ok FOK.wide _ ?_
     repeat' ((try conv => whnf); first|(first|refine k3 ?_ ?_|refine k4 ?_ ?_) <;> intro hb <;> (try rw [lM] at hb) <;> try (exfalso; omega)|refine s4 nm ?_|refine s5 nm nm ?_|fail)
     refine ⟨i + 1, Le.of (by (repeat' (first|exact trivial|refine aq ?_ ?_|exact oq|fail))) (by (repeat' (first|exact trivial|fail))) rfl rfl rfl, ⟨by omega, fun j hj hji => ?_⟩, by omega⟩
     rcases Nat.lt_succ_iff_lt_or_eq.1 hji with hji | rfl
     · exact ho j hj hji
     · exact decide_eq_false hv
 · have e : i = l.length := by omega
   subst e
   rw [ixI_no (p := fun x => decide (v = x)) fun j hj => ho j hj hj]
   refine code_sound (more := more8 false _ _) more8_ok FOK.wide _ ?_
   repeat' ((try conv => whnf); first|(first|refine k3 ?_ ?_|refine k4 ?_ ?_) <;> intro hb <;> (try rw [lM] at hb) <;> try (exfalso; omega)|fail)
   exact PSub.refl _
theorem contains_spec (l : List Int) (v : Int) (hl : l.length ≤ 140737488355328) : PSpec Tryd.prog 50 [encIs l, .int v] (.bool (l.any fun x => decide (v = x))) := by
 have q := index_spec l v hl
 have g := ixI_any (p := fun x => decide (v = x)) (l := l)
 rw [← g]
 obtain ⟨x, hx⟩ : ∃ x, x = ixI (fun x => decide (v = x)) l := ⟨_, rfl⟩
 rw [← hx] at q ⊢
 refine PSpec.of_vc (fun Γ => more8 false Γ.P Γ.fx) (fun Γ => more8_ok) Tryd.func50 rfl Tryd.call50 (by simp) ?_
 rintro ⟨P, N, w0, X, β0, fx, y, hy, pk, df⟩ rfl rfl rfl hoff rfl; change y.on = false at hoff
 skip
 refine .inl ⟨_, q, ?_⟩
 skip
 exact PSub.refl _
theorem indexF_spec (l : List Nd) (hl : l.length ≤ 140737488355328) (hn : ∀ n ∈ l, n.rounds.length ≤ 140737488355328) : PSpec Tryd.prog 42 [encNds l, .fn 29 []] (.int (ixI (fun n => !decide (ndP n)) l)) := by
 have lL : (l.map encNd).length = l.length := List.length_map ..
 refine PSpec.of_vc (fun Γ => more8 false Γ.P Γ.fx) (fun Γ => more8_ok) Tryd.func42 rfl Tryd.call42 (by simp) ?_
 rintro ⟨P, N, w0, X, β0, fx, y, hy, pk, df⟩ rfl rfl rfl hoff rfl; change y.on = false at hoff
 skip
 refine Wp.loop (fun i : Nat => ⟨[(0, .pure (encNds l)), (1, .pure (.fn 29 [])), (7, .int l.length), (8, .int i)], [], []⟩) (fun i => i ≤ l.length ∧ ∀ j (hj : j < l.length), j < i → (!decide (ndP l[j])) = false) (fun i => l.length - i) 0 (Le.of ?_ ?_ rfl rfl rfl) ⟨Nat.zero_le _, fun j _ h => by omega⟩ ?_
 · (repeat' (first|exact trivial|refine aq ?_ ?_|exact oq|exact l1 bd|fail))
 · (repeat' (first|exact trivial|fail))
 rintro i ⟨hi, ho⟩
 by_cases hi2 : i < l.length
 · have q := check1_spec l[i] (hn _ (List.getElem_mem hi2))
   by_cases hv : ndP l[i]
   · rw [decide_eq_true hv] at q
     refine code_sound (more := more8 false _ _) more8_ok FOK.wide _ ?_
     repeat' ((try conv => whnf); first|(first|refine k3 ?_ ?_|refine k4 ?_ ?_) <;> intro hb <;> (try rw [lM] at hb) <;> try (exfalso; omega)|refine s5 nm nm ?_|fail)
     refine .inl ⟨_, q, ?_⟩
     repeat' ((try conv => whnf); first|refine s4 nm ?_|fail)
     refine ⟨i + 1, Le.of (by (repeat' (first|exact trivial|refine aq ?_ ?_|exact oq|fail))) (by (repeat' (first|exact trivial|fail))) rfl rfl rfl, ⟨by omega, fun j hj hji => ?_⟩, by omega⟩
     rcases Nat.lt_succ_iff_lt_or_eq.1 hji with hji | rfl
     · exact ho j hj hji
     · rw [decide_eq_true hv]; rfl
   · rw [ixI_at (p := fun n => !decide (ndP n)) hi2 (by rw [decide_eq_false hv]; rfl) ho]
     rw [decide_eq_false hv] at q
     refine code_sound (more := more8 false _ _) more8_ok FOK.wide _ ?_
     repeat' ((try conv => whnf); first|(first|refine k3 ?_ ?_|refine k4 ?_ ?_) <;> intro hb <;> (try rw [lM] at hb) <;> try (exfalso; omega)|refine s5 nm nm ?_|fail)
     refine .inl ⟨_, q, ?_⟩
     skip
     exact PSub.refl _
 · have e : i = l.length := by omega
   subst e
   rw [ixI_no (p := fun n => !decide (ndP n)) fun j hj => ho j hj hj]
   refine code_sound (more := more8 false _ _) more8_ok FOK.wide _ ?_
   repeat' ((try conv => whnf); first|(first|refine k3 ?_ ?_|refine k4 ?_ ?_) <;> intro hb <;> (try rw [lM] at hb) <;> try (exfalso; omega)|fail)
   exact PSub.refl _
theorem containsF_spec (l : List Nd) (hl : l.length ≤ 140737488355328) (hn : ∀ n ∈ l, n.rounds.length ≤ 140737488355328) : PSpec Tryd.prog 28 [encNds l, .fn 29 []] (.bool (l.any fun n => !decide (ndP n))) := by
 have q := indexF_spec l hl hn
 have g := ixI_any (p := fun n => !decide (ndP n)) (l := l)
 rw [← g]
 obtain ⟨x, hx⟩ : ∃ x, x = ixI (fun n => !decide (ndP n)) l := ⟨_, rfl⟩
 rw [← hx] at q ⊢
 refine PSpec.of_vc (fun Γ => more8 false Γ.P Γ.fx) (fun Γ => more8_ok) Tryd.func28 rfl Tryd.call28 (by simp) ?_
 rintro ⟨P, N, w0, X, β0, fx, y, hy, pk, df⟩ rfl rfl rfl hoff rfl; change y.on = false at hoff
 skip
 refine .inl ⟨_, q, ?_⟩
 skip
 exact PSub.refl _
theorem check_spec (S : List Sk) (D : List Nd) (hS : S.length ≤ 140737488355328) (hD : D.length ≤ 140737488355328) (hn : ∀ n ∈ D, n.rounds.length ≤ 140737488355328) : PSpec Tryd.prog 14 [encSks S, encNds D] (.int (chkE S D)) := by
 have lS : (S.map encSk).length = S.length := List.length_map ..
 have lD : (D.map encNd).length = D.length := List.length_map ..
 have no : ¬ chkP S D → chkE S D = 320 := fun h => if_neg h
 have qf := containsF_spec D hD hn
 by_cases h1 : S.length ≤ 64
 case neg =>
   rw [no (fun h => h1 h.1)]
   refine PSpec.of_vc (fun Γ => more8 false Γ.P Γ.fx) (fun Γ => more8_ok) Tryd.func14 rfl Tryd.call14 (by simp) ?_
   rintro ⟨P, N, w0, X, β0, fx, y, hy, pk, df⟩ rfl rfl rfl hoff rfl; change y.on = false at hoff
   repeat' ((try conv => whnf); first|(first|refine k3 ?_ ?_|refine k4 ?_ ?_) <;> intro hb <;> (try rw [lM] at hb) <;> try (exfalso; omega)|fail)
   exact PSub.refl _
 by_cases h2 : D.length ≤ 16
 case neg =>
   rw [no (fun h => h2 h.2.1)]
   refine PSpec.of_vc (fun Γ => more8 false Γ.P Γ.fx) (fun Γ => more8_ok) Tryd.func14 rfl Tryd.call14 (by simp) ?_
   rintro ⟨P, N, w0, X, β0, fx, y, hy, pk, df⟩ rfl rfl rfl hoff rfl; change y.on = false at hoff
   repeat' ((try conv => whnf); first|(first|refine k3 ?_ ?_|refine k4 ?_ ?_) <;> intro hb <;> (try rw [lM] at hb) <;> try (exfalso; omega)|fail)
   exact PSub.refl _
 refine PSpec.of_vc (fun Γ => more8 false Γ.P Γ.fx) (fun Γ => more8_ok) Tryd.func14 rfl Tryd.call14 (by simp) ?_
 rintro ⟨P, N, w0, X, β0, fx, y, hy, pk, df⟩ rfl rfl rfl hoff rfl; change y.on = false at hoff
 repeat' ((try conv => whnf); first|(first|refine k3 ?_ ?_|refine k4 ?_ ?_) <;> intro hb <;> (try rw [lM] at hb) <;> try (exfalso; omega)|fail)
 refine Wp.loop (fun i : Nat => ⟨[(1, .pure (encNds D)), (5, .lsl 300 0 i), (16, .pure (encSks S)), (17, .int S.length), (18, .int i)], [(300, some (.row 1 (ints ((S.take i).map Sk.round))))], [300]⟩) (fun i => i ≤ S.length ∧ ∀ j (hj : j < S.length), j < i → skP S[j]) (fun i => S.length - i) 0
   (Le.trans (Le.virt (k := 300) (sz := 1) rfl rfl (by omega)) (Le.of ?_ ?_ rfl rfl rfl)) ⟨Nat.zero_le _, fun j _ h => by omega⟩ ?_
 · (repeat' (first|exact trivial|refine aq ?_ ?_|exact oq|exact l1 bd|exact l6 rfl|fail))
 · (repeat' (first|exact trivial|exact rfl|refine aq ?_ ?_|fail))
 rintro i ⟨hi, ho⟩
 have lR : (ints ((S.take i).map Sk.round)).length = i := by simp [ints]; omega
 by_cases hi2 : i < S.length
 · have mno : ¬ skP S[i] → chkE S D = 320 := fun h => no fun h' => h (h'.2.2.1 _ (List.getElem_mem hi2))
   by_cases c1 : S[i].copies < 0
   · rw [mno (fun h => by have := h.1; omega)]
     refine code_sound (more := more8 false _ _) more8_ok FOK.wide _ ?_
     repeat' ((try conv => whnf); first|(first|refine k3 ?_ ?_|refine k4 ?_ ?_) <;> intro hb <;> (try rw [lM] at hb) <;> try (exfalso; omega)|refine aq rfl ?_|refine s5 nm nm ?_|fail)
     exact PSub.refl _
   by_cases c2 : 16 < S[i].copies
   · rw [mno (fun h => by have := h.2.1; omega)]
     refine code_sound (more := more8 false _ _) more8_ok FOK.wide _ ?_
     repeat' ((try conv => whnf); first|(first|refine k3 ?_ ?_|refine k4 ?_ ?_) <;> intro hb <;> (try rw [lM] at hb) <;> try (exfalso; omega)|refine aq rfl ?_|refine s5 nm nm ?_|fail)
     exact PSub.refl _
   by_cases c3 : S[i].size < 0
   · rw [mno (fun h => by have := h.2.2; omega)]
     refine code_sound (more := more8 false _ _) more8_ok FOK.wide _ ?_
     repeat' ((try conv => whnf); first|(first|refine k3 ?_ ?_|refine k4 ?_ ?_) <;> intro hb <;> (try rw [lM] at hb) <;> try (exfalso; omega)|refine aq rfl ?_|refine s5 nm nm ?_|fail)
     exact PSub.refl _
   have ht : ints ((S.take (i + 1)).map Sk.round) = ints ((S.take i).map Sk.round) ++ [[.int S[i].round]] := by rw [List.take_succ_eq_append_getElem hi2, List.map_append]; unfold ints; rw [List.map_append]; rfl
   refine code_sound (more := more8 false _ _) more8_ok FOK.wide _ ?_
   repeat' ((try conv => whnf); first|(first|refine k3 ?_ ?_|refine k4 ?_ ?_) <;> intro hb <;> (try rw [lM] at hb) <;> try (exfalso; omega)|refine aq rfl ?_|refine s4 nm ?_|refine s5 nm nm ?_|refine aq bd ?_|fail)
   refine ⟨i + 1, Le.map [(300, 39)] ?_ ?_ rfl rfl rfl rfl, ⟨by omega, fun j hj hji => ?_⟩, by omega⟩
   · rw [ht]
     (repeat' (first|exact trivial|refine aq ?_ ?_|exact oq|fail))
     all_goals first
       | (refine SubA.lsl ?_; focus (simp [ints]; omega; done))
       | (refine rowEq ?_; focus (simp [ints]; done))
   · rw [ht]
     (repeat' (first|exact trivial|exact rfl|refine aq ?_ ?_|fail))
     all_goals first
       | (refine SubA.lsl ?_; focus (simp [ints]; omega; done))
       | (refine rowEq ?_; focus (simp [ints]; done))
   · rcases Nat.lt_succ_iff_lt_or_eq.1 hji with hji | rfl
     · exact ho j hj hji
     · exact ⟨by omega, by omega, by omega⟩
 · have e : i = S.length := by omega
   subst e
   have hsk : ∀ s ∈ S, skP s := fun s hs => by
     obtain ⟨j, hj, rfl⟩ := List.getElem_of_mem hs
     exact ho j hj hj
   rw [List.take_length] at lR ⊢
   have qi := increasing_spec (S.map Sk.round) (by simp; omega)
   have qa : PSpec Tryd.prog 27 [.sl 1 (List.take S.length (List.drop 0 (ints (S.map Sk.round))))] (.bool (decide (incP (S.map Sk.round)))) := by
     rw [List.drop_zero, List.take_of_length_le (by rw [lR]; exact Nat.le_refl _)]; exact qi
   by_cases h3 : incP (S.map Sk.round)
   case neg =>
     rw [no (fun h => h3 h.2.2.2.1)]
     rw [decide_eq_false h3] at qa
     refine code_sound (more := more8 false _ _) more8_ok FOK.wide _ ?_
     repeat' ((try conv => whnf); first|(first|refine k3 ?_ ?_|refine k4 ?_ ?_) <;> intro hb <;> (try rw [lM] at hb) <;> try (exfalso; omega)|fail)
     refine .inl ⟨_, qa, ?_⟩
     skip
     exact PSub.refl _
   rw [decide_eq_true h3] at qa
   by_cases h4 : ∀ n ∈ D, ndP n
   · rw [show chkE S D = 0 from if_pos ⟨h1, h2, hsk, h3, h4⟩]
     rw [List.any_eq_false.2 (fun n hn => by simp [h4 n hn])] at qf
     refine code_sound (more := more8 false _ _) more8_ok FOK.wide _ ?_
     repeat' ((try conv => whnf); first|(first|refine k3 ?_ ?_|refine k4 ?_ ?_) <;> intro hb <;> (try rw [lM] at hb) <;> try (exfalso; omega)|fail)
     refine .inl ⟨_, qa, ?_⟩
     skip
     refine .inl ⟨_, qf, ?_⟩
     skip
     exact PSub.refl _
   · rw [no (fun h => h4 h.2.2.2.2)]
     have hany : (D.any fun n => !decide (ndP n)) = true := by
       cases ha : (D.any fun n => !decide (ndP n)) with
       | true => rfl
       | false => exact absurd (fun n hn => by have := List.any_eq_false.1 ha n hn; simpa using this) h4
     rw [hany] at qf
     refine code_sound (more := more8 false _ _) more8_ok FOK.wide _ ?_
     repeat' ((try conv => whnf); first|(first|refine k3 ?_ ?_|refine k4 ?_ ?_) <;> intro hb <;> (try rw [lM] at hb) <;> try (exfalso; omega)|fail)
     refine .inl ⟨_, qa, ?_⟩
     skip
     refine .inl ⟨_, qf, ?_⟩
     skip
     exact PSub.refl _
end Go.Proofs.YthldjgjpokjliaaDoor
/- Schedules: the reference's Check; which rounds a need can use; the lowest bit. Conditions: none. -/
namespace Go.Proofs.YthldjgjpokjliaaDoor
open Go.Avc
def usesB (n : Nd) (s : Sk) : Bool := decide (n.floor ≤ s.size) && n.rounds.any fun x => decide (s.round = x)
def usS (n : Nd) (x : Nat) (s : Sk) : Nat := if usesB n s = true then x ||| 2 ^ s.round.toNat else x
def usT (S : List Sk) (n : Nd) (i : Nat) : Nat := (S.take i).foldl (usS n) 0
def usM (S : List Sk) (n : Nd) : Nat := S.foldl (usS n) 0
theorem usT_next {S : List Sk} {n : Nd} {i : Nat} (h : i < S.length) : usT S n (i + 1) = usS n (usT S n i) S[i] := by
 unfold usT
 rw [List.take_succ_eq_append_getElem h, List.foldl_append]
 rfl
theorem usT_lt {S : List Sk} {n : Nd} (hr : ∀ s ∈ S, 0 ≤ s.round ∧ s.round < 64) : ∀ i, i ≤ S.length → usT S n i < 18446744073709551616
 | 0, _ => by simp [usT]
 | i + 1, hi => by
   have h1 : i < S.length := by omega
   rw [usT_next h1]
   have ih := usT_lt (n := n) hr i (by omega)
   have := hr _ (List.getElem_mem h1)
   unfold usS
   split
   · exact or_lt ih (pow_lt (by omega))
   · exact ih
attribute [local irreducible] PSub Wp PSpec Le Need Both
theorem rcheck_spec (S : List Sk) (D : List Nd) (hS : S.length ≤ 140737488355328) (hD : D.length ≤ 140737488355328) (hn : ∀ n ∈ D, n.rounds.length ≤ 140737488355328) : PSpec Tryd.prog 15 [encSks S, encNds D] (.int (chkE S D)) := by
 have lS : (S.map encSk).length = S.length := List.length_map ..
 have lD : (D.map encNd).length = D.length := List.length_map ..
 have no : ¬ chkP S D → chkE S D = 320 := fun h => if_neg h
 by_cases h1 : S.length ≤ 64
 case neg =>
   rw [no (fun h => h1 h.1)]
   refine PSpec.of_vc (fun Γ => more8 false Γ.P Γ.fx) (fun Γ => more8_ok) Tryd.func15 rfl Tryd.call15 (by simp) ?_
   rintro ⟨P, N, w0, X, β0, fx, y, hy, pk, df⟩ rfl rfl rfl hoff rfl; change y.on = false at hoff
   repeat' ((try conv => whnf); first|(first|refine k3 ?_ ?_|refine k4 ?_ ?_) <;> intro hb <;> (try rw [lM] at hb) <;> try (exfalso; omega)|fail)
   exact PSub.refl _
 by_cases h2 : D.length ≤ 16
 case neg =>
   rw [no (fun h => h2 h.2.1)]
   refine PSpec.of_vc (fun Γ => more8 false Γ.P Γ.fx) (fun Γ => more8_ok) Tryd.func15 rfl Tryd.call15 (by simp) ?_
   rintro ⟨P, N, w0, X, β0, fx, y, hy, pk, df⟩ rfl rfl rfl hoff rfl; change y.on = false at hoff
   repeat' ((try conv => whnf); first|(first|refine k3 ?_ ?_|refine k4 ?_ ?_) <;> intro hb <;> (try rw [lM] at hb) <;> try (exfalso; omega)|fail)
   exact PSub.refl _
 refine PSpec.of_vc (fun Γ => more8 false Γ.P Γ.fx) (fun Γ => more8_ok) Tryd.func15 rfl Tryd.call15 (by simp) ?_
 rintro ⟨P, N, w0, X, β0, fx, y, hy, pk, df⟩ rfl rfl rfl hoff rfl; change y.on = false at hoff
 repeat' ((try conv => whnf); first|(first|refine k3 ?_ ?_|refine k4 ?_ ?_) <;> intro hb <;> (try rw [lM] at hb) <;> try (exfalso; omega)|fail)
 refine Wp.loop (fun i : Nat => ⟨[(0, .pure (encSks S)), (1, .pure (encNds D)), (5, .int i)], [], []⟩) (fun i => i ≤ S.length ∧ (∀ j (hj : j < S.length), j < i → skP S[j]) ∧ incT (S.map Sk.round) i) (fun i => S.length - i) 0
   (Le.of ?_ ?_ rfl rfl rfl) ⟨Nat.zero_le _, fun j _ h => by omega, fun j _ h => by omega⟩ ?_
 · (repeat' (first|exact trivial|refine aq ?_ ?_|exact oq|fail))
 · (repeat' (first|exact trivial|fail))
 rintro i ⟨hi, ho, hr⟩
 by_cases hi2 : i < S.length
 · have hm : i < (S.map Sk.round).length := by simpa using hi2
   have em : (S.map Sk.round)[i] = S[i].round := by simp
   have mno : ¬ skP S[i] → chkE S D = 320 := fun h => no fun h' => h (h'.2.2.1 _ (List.getElem_mem hi2))
   have rno : ¬ (0 ≤ S[i].round ∧ S[i].round < 64 ∧ ∀ (h0 : 0 < i), S[i - 1].round < S[i].round) → chkE S D = 320 := fun h => no fun h' => h (by
     have := h'.2.2.2.1 i hm hm
     simpa using this)
   have nx : skP S[i] → 0 ≤ S[i].round ∧ S[i].round < 64 ∧ (∀ (h0 : 0 < i), S[i - 1].round < S[i].round) → (i + 1 ≤ S.length ∧ (∀ j (hj : j < S.length), j < i + 1 → skP S[j]) ∧ incT (S.map Sk.round) (i + 1)) := fun a b => ⟨by omega, fun j hj hji => by
       rcases Nat.lt_succ_iff_lt_or_eq.1 hji with hji | rfl
       · exact ho j hj hji
       · exact a, fun j hj hji => by
       rcases Nat.lt_succ_iff_lt_or_eq.1 hji with hji | rfl
       · exact hr j hj hji
       · simpa using b⟩
   by_cases c1 : S[i].round < 0
   · rw [rno (fun h => by omega)]
     refine code_sound (more := more8 false _ _) more8_ok FOK.wide _ ?_
     repeat' ((try conv => whnf); first|(first|refine k3 ?_ ?_|refine k4 ?_ ?_) <;> intro hb <;> (try rw [lM] at hb) <;> try (exfalso; omega)|refine aq rfl ?_|refine s5 nm nm ?_|fail)
     refine Wp.draw (more := more8 true _ _) more8_det more8_ok FOK.wide rfl (by decide +kernel) (by conv => lhs; reduce) ?_
     repeat' ((try conv => whnf); first|(first|refine k3 ?_ ?_|refine k4 ?_ ?_) <;> intro hb <;> (try rw [lM] at hb) <;> try (exfalso; omega)|fail)
     exact PSub.refl _
   by_cases c2 : 64 ≤ S[i].round
   · rw [rno (fun h => by omega)]
     refine code_sound (more := more8 false _ _) more8_ok FOK.wide _ ?_
     repeat' ((try conv => whnf); first|(first|refine k3 ?_ ?_|refine k4 ?_ ?_) <;> intro hb <;> (try rw [lM] at hb) <;> try (exfalso; omega)|refine aq rfl ?_|refine s5 nm nm ?_|fail)
     refine Wp.draw (more := more8 true _ _) more8_det more8_ok FOK.wide rfl (by decide +kernel) (by conv => lhs; reduce) ?_
     repeat' ((try conv => whnf); first|(first|refine k3 ?_ ?_|refine k4 ?_ ?_) <;> intro hb <;> (try rw [lM] at hb) <;> try (exfalso; omega)|fail)
     exact PSub.refl _
   by_cases h0 : i = 0
   · by_cases c4 : S[i].copies < 0
     · rw [mno (fun h => by have := h.1; omega)]
       refine code_sound (more := more8 false _ _) more8_ok FOK.wide _ ?_
       repeat' ((try conv => whnf); first|(first|refine k3 ?_ ?_|refine k4 ?_ ?_) <;> intro hb <;> (try rw [lM] at hb) <;> try (exfalso; omega)|refine aq rfl ?_|refine s5 nm nm ?_|fail)
       refine Wp.draw (more := more8 true _ _) more8_det more8_ok FOK.wide rfl (by decide +kernel) (by conv => lhs; reduce) ?_
       repeat' ((try conv => whnf); first|(first|refine k3 ?_ ?_|refine k4 ?_ ?_) <;> intro hb <;> (try rw [lM] at hb) <;> try (exfalso; omega)|fail)
       exact PSub.refl _
     by_cases c5 : 16 < S[i].copies
     · rw [mno (fun h => by have := h.2.1; omega)]
       refine code_sound (more := more8 false _ _) more8_ok FOK.wide _ ?_
       repeat' ((try conv => whnf); first|(first|refine k3 ?_ ?_|refine k4 ?_ ?_) <;> intro hb <;> (try rw [lM] at hb) <;> try (exfalso; omega)|refine aq rfl ?_|refine s5 nm nm ?_|fail)
       refine Wp.draw (more := more8 true _ _) more8_det more8_ok FOK.wide rfl (by decide +kernel) (by conv => lhs; reduce) ?_
       repeat' ((try conv => whnf); first|(first|refine k3 ?_ ?_|refine k4 ?_ ?_) <;> intro hb <;> (try rw [lM] at hb) <;> try (exfalso; omega)|fail)
       exact PSub.refl _
     by_cases c6 : S[i].size < 0
     · rw [mno (fun h => by have := h.2.2; omega)]
       refine code_sound (more := more8 false _ _) more8_ok FOK.wide _ ?_
       repeat' ((try conv => whnf); first|(first|refine k3 ?_ ?_|refine k4 ?_ ?_) <;> intro hb <;> (try rw [lM] at hb) <;> try (exfalso; omega)|refine aq rfl ?_|refine s5 nm nm ?_|fail)
       refine Wp.draw (more := more8 true _ _) more8_det more8_ok FOK.wide rfl (by decide +kernel) (by conv => lhs; reduce) ?_
       repeat' ((try conv => whnf); first|(first|refine k3 ?_ ?_|refine k4 ?_ ?_) <;> intro hb <;> (try rw [lM] at hb) <;> try (exfalso; omega)|fail)
       exact PSub.refl _
     have hnx := nx ⟨by omega, by omega, by omega⟩ ⟨by omega, by omega, fun h => by omega⟩
     refine code_sound (more := more8 false _ _) more8_ok FOK.wide _ ?_
     repeat' ((try conv => whnf); first|(first|refine k3 ?_ ?_|refine k4 ?_ ?_) <;> intro hb <;> (try rw [lM] at hb) <;> try (exfalso; omega)|refine aq rfl ?_|refine s5 nm nm ?_|fail)
     refine Wp.draw (more := more8 true _ _) more8_det more8_ok FOK.wide rfl (by decide +kernel) (by conv => lhs; reduce) ?_
     repeat' ((try conv => whnf); first|(first|refine k3 ?_ ?_|refine k4 ?_ ?_) <;> intro hb <;> (try rw [lM] at hb) <;> try (exfalso; omega)|refine s4 nm ?_|fail)
     exact ⟨i + 1, Le.of (by (repeat' (first|exact trivial|refine aq ?_ ?_|exact oq|fail))) (by (repeat' (first|exact trivial|fail))) rfl rfl rfl, hnx, by omega⟩
   have en : ((i : Int) - 1).toNat = i - 1 := by omega
   have hpt : ((i : Int) - 1).toNat < S.length := by omega
   have hE : S[((i : Int) - 1).toNat].round = (S[i - 1]'(by omega)).round := by simp only [en]
   by_cases c3 : S[i].round ≤ S[((i : Int) - 1).toNat].round
   · rw [rno (fun h => by have := h.2.2 (by omega); omega)]
     refine code_sound (more := more8 false _ _) more8_ok FOK.wide _ ?_
     repeat' ((try conv => whnf); first|(first|refine k3 ?_ ?_|refine k4 ?_ ?_) <;> intro hb <;> (try rw [lM] at hb) <;> try (exfalso; omega)|refine aq rfl ?_|refine s5 nm nm ?_|fail)
     refine Wp.draw (more := more8 true _ _) more8_det more8_ok FOK.wide rfl (by decide +kernel) (by conv => lhs; reduce) ?_
     repeat' ((try conv => whnf); first|(first|refine k3 ?_ ?_|refine k4 ?_ ?_) <;> intro hb <;> (try rw [lM] at hb) <;> try (exfalso; omega)|refine s4 nm ?_|refine s6 nm nm ?_|fail)
     exact PSub.refl _
   by_cases c4 : S[i].copies < 0
   · rw [mno (fun h => by have := h.1; omega)]
     refine code_sound (more := more8 false _ _) more8_ok FOK.wide _ ?_
     repeat' ((try conv => whnf); first|(first|refine k3 ?_ ?_|refine k4 ?_ ?_) <;> intro hb <;> (try rw [lM] at hb) <;> try (exfalso; omega)|refine aq rfl ?_|refine s5 nm nm ?_|fail)
     refine Wp.draw (more := more8 true _ _) more8_det more8_ok FOK.wide rfl (by decide +kernel) (by conv => lhs; reduce) ?_
     repeat' ((try conv => whnf); first|(first|refine k3 ?_ ?_|refine k4 ?_ ?_) <;> intro hb <;> (try rw [lM] at hb) <;> try (exfalso; omega)|refine s4 nm ?_|refine s6 nm nm ?_|fail)
     exact PSub.refl _
   by_cases c5 : 16 < S[i].copies
   · rw [mno (fun h => by have := h.2.1; omega)]
     refine code_sound (more := more8 false _ _) more8_ok FOK.wide _ ?_
     repeat' ((try conv => whnf); first|(first|refine k3 ?_ ?_|refine k4 ?_ ?_) <;> intro hb <;> (try rw [lM] at hb) <;> try (exfalso; omega)|refine aq rfl ?_|refine s5 nm nm ?_|fail)
     refine Wp.draw (more := more8 true _ _) more8_det more8_ok FOK.wide rfl (by decide +kernel) (by conv => lhs; reduce) ?_
     repeat' ((try conv => whnf); first|(first|refine k3 ?_ ?_|refine k4 ?_ ?_) <;> intro hb <;> (try rw [lM] at hb) <;> try (exfalso; omega)|refine s4 nm ?_|refine s6 nm nm ?_|fail)
     exact PSub.refl _
   by_cases c6 : S[i].size < 0
   · rw [mno (fun h => by have := h.2.2; omega)]
     refine code_sound (more := more8 false _ _) more8_ok FOK.wide _ ?_
     repeat' ((try conv => whnf); first|(first|refine k3 ?_ ?_|refine k4 ?_ ?_) <;> intro hb <;> (try rw [lM] at hb) <;> try (exfalso; omega)|refine aq rfl ?_|refine s5 nm nm ?_|fail)
     refine Wp.draw (more := more8 true _ _) more8_det more8_ok FOK.wide rfl (by decide +kernel) (by conv => lhs; reduce) ?_
     repeat' ((try conv => whnf); first|(first|refine k3 ?_ ?_|refine k4 ?_ ?_) <;> intro hb <;> (try rw [lM] at hb) <;> try (exfalso; omega)|refine s4 nm ?_|refine s6 nm nm ?_|fail)
     exact PSub.refl _
   have hnx := nx ⟨by omega, by omega, by omega⟩ ⟨by omega, by omega, fun h => by omega⟩
   refine code_sound (more := more8 false _ _) more8_ok FOK.wide _ ?_
   repeat' ((try conv => whnf); first|(first|refine k3 ?_ ?_|refine k4 ?_ ?_) <;> intro hb <;> (try rw [lM] at hb) <;> try (exfalso; omega)|refine aq rfl ?_|refine s5 nm nm ?_|fail)
   refine Wp.draw (more := more8 true _ _) more8_det more8_ok FOK.wide rfl (by decide +kernel) (by conv => lhs; reduce) ?_
   repeat' ((try conv => whnf); first|(first|refine k3 ?_ ?_|refine k4 ?_ ?_) <;> intro hb <;> (try rw [lM] at hb) <;> try (exfalso; omega)|refine s4 nm ?_|refine s6 nm nm ?_|fail)
   exact ⟨i + 1, Le.of (by (repeat' (first|exact trivial|refine aq ?_ ?_|exact oq|fail))) (by (repeat' (first|exact trivial|fail))) rfl rfl rfl, hnx, by omega⟩
 · have e : i = S.length := by omega
   subst e
   have hsk : ∀ s ∈ S, skP s := fun s hs => by
     obtain ⟨j, hj, rfl⟩ := List.getElem_of_mem hs
     exact ho j hj hj
   have hin : incP (S.map Sk.round) := by unfold incP; rw [List.length_map]; exact hr
   refine code_sound (more := more8 false _ _) more8_ok FOK.wide _ ?_
   repeat' ((try conv => whnf); first|(first|refine k3 ?_ ?_|refine k4 ?_ ?_) <;> intro hb <;> (try rw [lM] at hb) <;> try (exfalso; omega)|fail)
   refine Wp.loop (fun i : Nat => ⟨[(1, .pure (encNds D)), (7, .int i)], [], []⟩) (fun i => i ≤ D.length ∧ ∀ j (hj : j < D.length), j < i → ndP D[j]) (fun i => D.length - i) 0
     (Le.of ?_ ?_ rfl rfl rfl) ⟨Nat.zero_le _, fun j _ h => by omega⟩ ?_
   · (repeat' (first|exact trivial|refine aq ?_ ?_|exact oq|fail))
   · (repeat' (first|exact trivial|fail))
   rintro i ⟨hi, hnd⟩
   by_cases hi2 : i < D.length
   · have q := rneed_spec D[i] (hn _ (List.getElem_mem hi2))
     by_cases hv : ndP D[i]
     · rw [decide_eq_true hv] at q
       refine code_sound (more := more8 false _ _) more8_ok FOK.wide _ ?_
       repeat' ((try conv => whnf); first|(first|refine k3 ?_ ?_|refine k4 ?_ ?_) <;> intro hb <;> (try rw [lM] at hb) <;> try (exfalso; omega)|refine s5 nm nm ?_|fail)
       refine .inl ⟨_, q, ?_⟩
       repeat' ((try conv => whnf); first|refine s4 nm ?_|fail)
       refine ⟨i + 1, Le.of (by (repeat' (first|exact trivial|refine aq ?_ ?_|exact oq|fail))) (by (repeat' (first|exact trivial|fail))) rfl rfl rfl, ⟨by omega, fun j hj hji => ?_⟩, by omega⟩
       rcases Nat.lt_succ_iff_lt_or_eq.1 hji with hji | rfl
       · exact hnd j hj hji
       · exact hv
     · rw [decide_eq_false hv] at q
       rw [no (fun h => hv (h.2.2.2.2 _ (List.getElem_mem hi2)))]
       refine code_sound (more := more8 false _ _) more8_ok FOK.wide _ ?_
       repeat' ((try conv => whnf); first|(first|refine k3 ?_ ?_|refine k4 ?_ ?_) <;> intro hb <;> (try rw [lM] at hb) <;> try (exfalso; omega)|refine s5 nm nm ?_|fail)
       refine .inl ⟨_, q, ?_⟩
       skip
       exact PSub.refl _
   · have e : i = D.length := by omega
     subst e
     have hnd2 : ∀ n ∈ D, ndP n := fun n hn => by
       obtain ⟨j, hj, rfl⟩ := List.getElem_of_mem hn
       exact hnd j hj hj
     rw [show chkE S D = 0 from if_pos ⟨h1, h2, hsk, hin, hnd2⟩]
     refine code_sound (more := more8 false _ _) more8_ok FOK.wide _ ?_
     repeat' ((try conv => whnf); first|(first|refine k3 ?_ ?_|refine k4 ?_ ?_) <;> intro hb <;> (try rw [lM] at hb) <;> try (exfalso; omega)|fail)
     exact PSub.refl _
theorem uses_spec (n : Nd) (s : Sk) (hl : n.rounds.length ≤ 140737488355328) : PSpec Tryd.prog 22 [.agg (encNd n), .agg (encSk s)] (.bool (usesB n s)) := by
 have lR : (n.rounds.map fun x => [PV.int x]).length = n.rounds.length := List.length_map ..
 refine PSpec.of_vc (fun Γ => more8 false Γ.P Γ.fx) (fun Γ => more8_ok) Tryd.func22 rfl Tryd.call22 (by simp) ?_
 rintro ⟨P, N, w0, X, β0, fx, y, hy, pk, df⟩ rfl rfl rfl hoff rfl; change y.on = false at hoff
 skip
 refine Wp.loop (fun i : Nat => ⟨[(2, .loc 2 0 0), (3, .loc 3 0 0), (5, .int i)], [(2, some (.box (pures (encNd n)))), (3, some (.box (pures (encSk s))))], [2, 3]⟩) (fun i => i ≤ n.rounds.length ∧ ∀ j (hj : j < n.rounds.length), j < i → ¬ s.round = n.rounds[j]) (fun i => n.rounds.length - i) 0
   (Le.of ?_ ?_ rfl rfl rfl) ⟨Nat.zero_le _, fun j _ h => by omega⟩ ?_
 · (repeat' (first|exact trivial|refine aq ?_ ?_|exact oq|fail))
 · (repeat' (first|exact trivial|refine aq ?_ ?_|refine Exists.intro _ (aq rfl ?_)|exact oq|fail))
 rintro i ⟨hi, ho⟩
 by_cases hi2 : i < n.rounds.length
 · by_cases he : n.rounds[i] = s.round
   · have hu : usesB n s = decide (n.floor ≤ s.size) := by
       unfold usesB
       rw [List.any_eq_true.2 ⟨_, List.getElem_mem hi2, decide_eq_true he.symm⟩, Bool.and_true]
     rw [hu]
     refine code_sound (more := more8 false _ _) more8_ok FOK.wide _ ?_
     repeat' ((try conv => whnf); first|(first|refine k3 ?_ ?_|refine k4 ?_ ?_) <;> intro hb <;> (try rw [lM] at hb) <;> try (exfalso; omega)|fail)
     refine Wp.draw (more := more8 true _ _) more8_det more8_ok FOK.wide rfl (by decide +kernel) (by conv => lhs; reduce) ?_
     repeat' ((try conv => whnf); first|(first|refine k3 ?_ ?_|refine k4 ?_ ?_) <;> intro hb <;> (try rw [lM] at hb) <;> try (exfalso; omega)|refine s5 nm nm ?_|fail)
     exact PSub.refl _
   · refine code_sound (more := more8 false _ _) more8_ok FOK.wide _ ?_
     repeat' ((try conv => whnf); first|(first|refine k3 ?_ ?_|refine k4 ?_ ?_) <;> intro hb <;> (try rw [lM] at hb) <;> try (exfalso; omega)|fail)
     refine Wp.draw (more := more8 true _ _) more8_det more8_ok FOK.wide rfl (by decide +kernel) (by conv => lhs; reduce) ?_
     repeat' ((try conv => whnf); first|(first|refine k3 ?_ ?_|refine k4 ?_ ?_) <;> intro hb <;> (try rw [lM] at hb) <;> try (exfalso; omega)|refine s4 nm ?_|refine s5 nm nm ?_|fail)
     refine ⟨i + 1, Le.of (by (repeat' (first|exact trivial|refine aq ?_ ?_|exact oq|fail))) (by (repeat' (first|exact trivial|refine aq ?_ ?_|refine Exists.intro _ (aq rfl ?_)|exact oq|fail))) rfl rfl rfl, ⟨by omega, fun j hj hji => ?_⟩, by omega⟩
     rcases Nat.lt_succ_iff_lt_or_eq.1 hji with hji | rfl
     · exact ho j hj hji
     · exact fun h => he h.symm
 · have e : i = n.rounds.length := by omega
   subst e
   have hu : usesB n s = false := by
     unfold usesB
     rw [List.any_eq_false.2 (fun x hx => by
       obtain ⟨j, hj, rfl⟩ := List.getElem_of_mem hx
       simpa using ho j hj hj), Bool.and_false]
   rw [hu]
   refine code_sound (more := more8 false _ _) more8_ok FOK.wide _ ?_
   repeat' ((try conv => whnf); first|(first|refine k3 ?_ ?_|refine k4 ?_ ?_) <;> intro hb <;> (try rw [lM] at hb) <;> try (exfalso; omega)|fail)
   exact PSub.refl _
theorem usable_spec (S : List Sk) (n : Nd) (hS : S.length ≤ 140737488355328) (hl : n.rounds.length ≤ 140737488355328) (hr : ∀ s ∈ S, 0 ≤ s.round ∧ s.round < 64) : PSpec Tryd.prog 38 [encSks S, .agg (encNd n)] (.val (.int .u64 (usM S n : Nat))) := by
 have lS : (S.map encSk).length = S.length := List.length_map ..
 refine PSpec.of_vc (fun Γ => more8 false Γ.P Γ.fx) (fun Γ => more8_ok) Tryd.func38 rfl Tryd.call38 (by simp) ?_
 rintro ⟨P, N, w0, X, β0, fx, y, hy, pk, df⟩ rfl rfl rfl hoff rfl; change y.on = false at hoff
 skip
 refine Wp.loop (fun i : Nat => ⟨[(3, .loc 3 0 0), (4, .pure (.val (.int .u64 (usT S n i : Nat)))), (7, .pure (encSks S)), (8, .int S.length), (9, .int i)], [(3, some (.box (pures (encNd n))))], [3]⟩) (fun i => i ≤ S.length) (fun i => S.length - i) 0
   (Le.of ?_ ?_ rfl rfl rfl) (Nat.zero_le _) ?_
 · (repeat' (first|exact trivial|refine aq ?_ ?_|exact oq|exact l1 bd|fail))
 · (repeat' (first|exact trivial|refine aq ?_ ?_|refine Exists.intro _ (aq rfl ?_)|exact oq|fail))
 rintro i hi
 by_cases hi2 : i < S.length
 · have hnx := usT_next (n := n) hi2
   have hlt := usT_lt (n := n) hr i hi
   obtain ⟨x, hx⟩ : ∃ x, x = usT S n i := ⟨_, rfl⟩
   rw [← hx] at hnx hlt ⊢
   have qc := contains_spec n.rounds S[i].round hl
   obtain ⟨r1, r2⟩ := hr _ (List.getElem_mem hi2)
   obtain ⟨ro, hro⟩ : ∃ ro : Nat, S[i].round = ro := ⟨S[i].round.toNat, by omega⟩
   unfold usS usesB at hnx
   by_cases hf : n.floor ≤ S[i].size
   · rw [decide_eq_true hf, Bool.true_and] at hnx
     obtain ⟨ib, hib⟩ : ∃ ib, ib = n.rounds.any fun x => decide (S[i].round = x) := ⟨_, rfl⟩
     rw [← hib] at hnx qc
     cases ib with
     | true =>
       rw [if_pos rfl] at hnx
       have hsh : IntKind.u64.wrap (1 * 2 ^ (min (S[i].round).toNat IntKind.u64.bits)) = ((2 ^ S[i].round.toNat : Nat) : Int) := by
         have := shl_u64 ro (by omega)
         rw [← hro] at this
         rw [this, hro, Int.toNat_natCast]
       have hor := bits_or_u64_nat x (2 ^ S[i].round.toNat) hlt (pow_lt (by omega))
       rw [← hnx] at hor
       refine code_sound (more := more8 false _ _) more8_ok FOK.wide _ ?_
       repeat' ((try conv => whnf); first|(first|refine k3 ?_ ?_|refine k4 ?_ ?_) <;> intro hb <;> (try rw [lM] at hb) <;> try (exfalso; omega)|refine aq rfl ?_|refine s5 nm nm ?_|fail)
       refine .inl ⟨_, qc, ?_⟩
       repeat' ((try conv => whnf); first|refine aq bd ?_|fail)
       refine ⟨_, hsh, ?_⟩
       skip
       refine ⟨_, hor, ?_⟩
       repeat' ((try conv => whnf); first|refine s4 nm ?_|fail)
       exact ⟨i + 1, Le.of (by (repeat' (first|exact trivial|refine aq ?_ ?_|exact oq|fail))) (by (repeat' (first|exact trivial|refine aq ?_ ?_|refine Exists.intro _ (aq rfl ?_)|exact oq|fail))) rfl rfl rfl, by omega, by omega⟩
     | false =>
       rw [if_neg (by simp)] at hnx
       refine code_sound (more := more8 false _ _) more8_ok FOK.wide _ ?_
       repeat' ((try conv => whnf); first|(first|refine k3 ?_ ?_|refine k4 ?_ ?_) <;> intro hb <;> (try rw [lM] at hb) <;> try (exfalso; omega)|refine aq rfl ?_|refine s5 nm nm ?_|fail)
       refine .inl ⟨_, qc, ?_⟩
       repeat' ((try conv => whnf); first|refine s4 nm ?_|fail)
       refine ⟨i + 1, Le.of ?_ (by (repeat' (first|exact trivial|refine aq ?_ ?_|refine Exists.intro _ (aq rfl ?_)|exact oq|fail))) rfl rfl rfl, by omega, by omega⟩
       rw [hnx]
       (repeat' (first|exact trivial|refine aq ?_ ?_|exact oq|fail))
   · rw [decide_eq_false hf, Bool.false_and, if_neg (by simp)] at hnx
     refine code_sound (more := more8 false _ _) more8_ok FOK.wide _ ?_
     repeat' ((try conv => whnf); first|(first|refine k3 ?_ ?_|refine k4 ?_ ?_) <;> intro hb <;> (try rw [lM] at hb) <;> try (exfalso; omega)|refine aq rfl ?_|refine s4 nm ?_|refine s5 nm nm ?_|fail)
     refine ⟨i + 1, Le.of ?_ (by (repeat' (first|exact trivial|refine aq ?_ ?_|refine Exists.intro _ (aq rfl ?_)|exact oq|fail))) rfl rfl rfl, by omega, by omega⟩
     rw [hnx]
     (repeat' (first|exact trivial|refine aq ?_ ?_|exact oq|fail))
 · have e : i = S.length := by omega
   subst e
   have hu : usT S n S.length = usM S n := by unfold usT usM; rw [List.take_length]
   rw [hu]
   refine code_sound (more := more8 false _ _) more8_ok FOK.wide _ ?_
   repeat' ((try conv => whnf); first|(first|refine k3 ?_ ?_|refine k4 ?_ ?_) <;> intro hb <;> (try rw [lM] at hb) <;> try (exfalso; omega)|fail)
   exact PSub.refl _
theorem tz_spec (x : Nat) (hx : x < 18446744073709551616) : PSpec Tryd.prog 39 [.val (.int .u64 x)] (.int (Lib.ctz 64 x : Nat)) := by
 by_cases h0 : x = 0
 · subst h0
   refine PSpec.of_vc (fun Γ => more8 false Γ.P Γ.fx) (fun Γ => more8_ok) Tryd.func39 rfl Tryd.call39 (by simp) ?_
   rintro ⟨P, N, w0, X, β0, fx, y, hy, pk, df⟩ rfl rfl rfl hoff rfl; change y.on = false at hoff
   skip
   exact PSub.refl _
 obtain ⟨hlow, hk⟩ := Lib.lowest_bit 64 x h0 hx
 obtain ⟨hi, htab⟩ := Lib.deBruijn64_at _ hk
 obtain ⟨k, hkd⟩ : ∃ k, k = Lib.ctz 64 x := ⟨_, rfl⟩
 rw [← hkd] at hlow hk hi htab ⊢
 have e1 : IntKind.u64.wrap (0 - (x : Int)) = ((18446744073709551616 - x : Nat) : Int) := by rw [wrap_u64]; omega
 have e2 : bits .and .u64 (x : Int) ((18446744073709551616 - x : Nat) : Int) = ((2 ^ k : Nat) : Int) := by rw [bits_and_u64_nat x _ hx (by omega)]; rw [show x &&& (18446744073709551616 - x) = 2 ^ k from hlow]
 obtain ⟨p, hp⟩ : ∃ p, p = 2 ^ k := ⟨_, rfl⟩
 rw [← hp] at e2 hi htab
 have e3 : IntKind.u64.wrap ((p : Int) * 285870213051353865) = ((p * 285870213051353865 % 18446744073709551616 : Nat) : Int) := by rw [wrap_u64]; omega
 obtain ⟨q, hq⟩ : ∃ q, q = p * 285870213051353865 % 18446744073709551616 := ⟨_, rfl⟩
 rw [← hq] at e3 hi htab
 have e4 : (q : Int).fdiv (2 ^ (min (Int.toNat 58) IntKind.u64.bits)) = ((q / 288230376151711744 : Nat) : Int) := by
   have := shr_nat q 58 64 (by decide)
   have h58 : (2 : Nat) ^ 58 = 288230376151711744 := by decide
   rw [h58] at this
   exact this
 obtain ⟨j, hj⟩ : ∃ j, j = q / 288230376151711744 := ⟨_, rfl⟩
 rw [← hj] at e4 hi htab
 refine PSpec.of_vc (fun Γ => more8 false Γ.P Γ.fx) (fun Γ => more8_ok) Tryd.func39 rfl Tryd.call39 (by simp) ?_
 rintro ⟨P, N, w0, X, β0, fx, y, hy, pk, df⟩ rfl rfl rfl hoff rfl; change y.on = false at hoff
 repeat' ((try conv => whnf); first|(first|refine k3 ?_ ?_|refine k4 ?_ ?_) <;> intro hb <;> (try rw [lM] at hb) <;> try (exfalso; omega)|fail)
 refine ⟨_, e1, ?_⟩
 skip
 refine ⟨_, e2, ?_⟩
 skip
 refine ⟨_, e3, ?_⟩
 repeat' ((try conv => whnf); first|refine aq bd ?_|fail)
 refine ⟨_, e4, ?_⟩
 skip
 refine ⟨deBruijnT.map fun n : Nat => [.val (.int .u8 (n : Int))], by kernel_rfl, ?_⟩
 repeat' ((try conv => whnf); first|refine aq bd ?_|fail)
 have hrow : (deBruijnT.map fun n : Nat => [PV.val (.int .u8 (n : Int))])[((j : Nat) : Int).toNat]? = some [PV.val (.int .u8 (k : Int))] := by
   rw [Int.toNat_natCast, List.getElem?_map]
   have hl : j < deBruijnT.length := hi
   rw [List.getElem?_eq_getElem hl]
   have : deBruijnT[j] = k := by rw [← getD_at hl 0]; exact htab
   rw [this]
   rfl
 refine ⟨_, hrow, ?_⟩
 repeat' ((try conv => whnf); first|refine s4 nm ?_|fail)
 exact PSub.refl _
end Go.Proofs.YthldjgjpokjliaaDoor
