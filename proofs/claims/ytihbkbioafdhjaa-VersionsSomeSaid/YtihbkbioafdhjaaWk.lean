/- Versions: directions; pairs are sorted by their fields. Conditions: none. -/
import Derived.Test.YtihbkbioafdhjaaWd
import Derived.Test.YtihbkbioafdhjaaWj
import Derived.Test.YtihbkbioafdhjaaWi
import Derived.Test.YtihbkbioafdhjaaWg
import Derived.Shelf.SlSortCmp.NoneTotal
set_option linter.unusedSimpArgs false
set_option linter.unusedVariables false
set_option maxRecDepth 20000
set_option maxHeartbeats 4000000
namespace Go.Avc
open Go.RowKit
open Go.Shelf (Ren)
theorem sort_none {P : Program} {ρ : Ren} (L : Go.Proofs.SlLaysF0.n6 P ρ) (k : Nat) (g : FuncId) : PSpec P (ρ.f 6) [.sl k [], .fn g []] (.tup []) := by
 refine ⟨fun vs w => L.f6.enters rfl vs w, fun w X vs hgl hsz hv hX => ?_⟩
 have h0 := hv 0 _ rfl
 have h1 := hv 1 _ rfl
 obtain ⟨p, cap, hs0⟩ : ∃ p cap, vs.getD 0 undef = .slice p 0 cap := by
   generalize vs.getD 0 undef = u at h0
   cases h0 with
   | slnil => exact ⟨none, 0, rfl⟩
   | sl _ _ a cap => exact ⟨some a, cap, rfl⟩
 have hvs : vs = #[.slice p 0 cap, vs.getD 1 undef] := by
   obtain ⟨l⟩ := vs
   match l, hsz with
   | [a, b], _ =>
     simp at hs0 ⊢
     exact hs0
 rw [hvs]
 refine (Go.Proofs.AnyF.slices_SortFunc_none L p cap (vs.getD 1 undef) w).mono ?_
 rintro e w' ⟨rfl, rfl⟩
 exact ⟨_, rfl, .tup [] #[] rfl (fun j p hj => by simp at hj), Kp.refl _ _⟩
end Go.Avc
namespace Go.Proofs.Ytihbkbioafdhjaa
open Go.Avc
def cmpI (x y : Int) : Int := if x < y then -1 else if y < x then 1 else 0
theorem cmpI_lt (x y : Int) : cmpI x y < 0 ↔ x < y := by
 unfold cmpI
 by_cases h1 : x < y <;> by_cases h2 : y < x <;> simp [h1, h2]
def ltP (p q : Int × Int) : Prop := p.1 < q.1
theorem swoP : Go.Sort.SWO fun x y : Int × Int => decide (cmpI x.1 y.1 < 0) where
 irrefl x := by simp only [decide_eq_false_iff_not, cmpI_lt]; omega
 trans x y z h1 h2 := by
   simp only [decide_eq_true_eq, cmpI_lt] at *
   omega
 ntrans x y z h1 h2 := by
   simp only [decide_eq_false_iff_not, cmpI_lt] at *
   omega
def mvd (back : Bool) (m : Mv) (v : Int) : Int × Int × Int := if back then (m.b, m.a, v - m.shift) else (m.a, m.b, v + m.shift)
def enc3 (t : Int × Int × Int) : PV := .tup [.int t.1, .int t.2.1, .int t.2.2]
def dirFn (back : Bool) : FuncId := if back then 55 else 56
def cvFrom (back : Bool) (c : Cv) : Int := if back then c.b else c.a
def cvTo (back : Bool) (c : Cv) : Int := if back then c.a else c.b
attribute [local irreducible] PSub Wp PSpec Le Need Both
theorem isNaN_spec (x : Int) : PSpec Try.prog 59 [.int x] (.bool false) := by
 refine PSpec.of_vc (fun Γ => more8 false Γ.P Γ.fx) (fun Γ => more8_ok) Try.func59 rfl Try.call59 (by simp) ?_
 rintro ⟨P, N, w0, X, β0, fx, y, hy, pk, df⟩ rfl rfl rfl hoff rfl; change y.on = false at hoff
 skip
 exact PSub.of_eq (by simp)
theorem cmpI_spec (a b : Int) : PSpec Try.prog 50 [.int a, .int b] (.int (cmpI a b)) := by
 refine PSpec.of_vc (fun Γ => more8 false Γ.P Γ.fx) (fun Γ => more8_ok) Try.func50 rfl Try.call50 (by simp) ?_
 rintro ⟨P, N, w0, X, β0, fx, y, hy, pk, df⟩ rfl rfl rfl hoff rfl; change y.on = false at hoff
 skip
 refine .inl ⟨_, isNaN_spec _, ?_⟩
 skip
 refine .inl ⟨_, isNaN_spec _, ?_⟩
 repeat' ((try conv => whnf); first|(first|refine k3 ?_ ?_|refine k4 ?_ ?_) <;> intro hb <;> (try rw [lM] at hb) <;> try (exfalso; omega)|fail)
 all_goals exact PSub.of_eq (by unfold cmpI; first | (rw [if_pos (by omega)]) | (rw [if_neg (by omega), if_pos (by omega)]) | (rw [if_neg (by omega), if_neg (by omega)]))
theorem perform1_spec (x y : Int × Int) : PSpec Try.prog 49 [.agg (encP2 x), .agg (encP2 y)] (.int (cmpI x.1 y.1)) := by
 have q := cmpI_spec x.1 y.1
 refine PSpec.of_vc (fun Γ => more8 false Γ.P Γ.fx) (fun Γ => more8_ok) Try.func49 rfl Try.call49 (by simp) ?_
 rintro ⟨P, N, w0, X, β0, fx, y, hy, pk, df⟩ rfl rfl rfl hoff rfl; change y.on = false at hoff
 repeat' ((try conv => whnf); first|refine aq rfl ?_|refine aq bd ?_|refine ⟨_, singles_rfl _, ?_⟩|fail)
 refine ⟨_, _, rfl, rfl, ?_⟩
 repeat' ((try conv => whnf); first|refine aq rfl ?_|refine aq bd ?_|fail)
 refine ⟨_, _, rfl, rfl, ?_⟩
 skip
 refine .inl ⟨_, q, ?_⟩
 skip
 exact PSub.refl _
theorem sortP_spec (d d' : List (Int × Int)) (hn : 0 < d.length) (hn2 : d.length ≤ 1000000) (hu : ∀ r : List (Int × Int), r.Perm d → r.Pairwise (fun x y => ¬ ltP y x) → r = d') : GSpec Try.prog 48 2 ⟨numE 0 [.lsl 100 0 d.length, .fn 49 []], [(100, some (.row 2 (d.map encP2)))], [100]⟩ [100] 0 ⟨[], [(100, some (.row 2 (d'.map encP2)))], [100]⟩ :=
 sort_spec Try.sortDf (k := 2) Try.isAgg95 Try.sizeOf95 encP2 (fun x y => cmpI x.1 y.1) swoP 49 d d' (fun x _ y _ => perform1_spec x y) hn (by omega) (fun r h1 h2 => hu r h1 (h2.imp fun {x y} h h' => h ((cmpI_lt _ _).2 h'))) 100
theorem sortP_none : PSpec Try.prog 48 [.sl 2 [], .fn 49 []] (.tup []) := sort_none Try.sortDf 2 _
theorem directed1_spec (m : Mv) (v : Int) (h1 : -1000000000000 ≤ v) (h2 : v ≤ 1000000000000) (h3 : -1000000000000 ≤ m.shift) (h4 : m.shift ≤ 1000000000000) : PSpec Try.prog 55 [.agg (encMv m), .int v] (enc3 (mvd true m v)) := by
 refine PSpec.of_vc (fun Γ => more8 false Γ.P Γ.fx) (fun Γ => more8_ok) Try.func55 rfl Try.call55 (by simp) ?_
 rintro ⟨P, N, w0, X, β0, fx, y, hy, pk, df⟩ rfl rfl rfl hoff rfl; change y.on = false at hoff
 skip
 refine Wp.draw (more := more8 true _ _) more8_det more8_ok FOK.wide rfl (by decide +kernel) (by conv => lhs; reduce) ?_
 repeat' ((try conv => whnf); first|refine s4 nm ?_|fail)
 exact PSub.refl _
theorem directed2_spec (m : Mv) (v : Int) (h1 : -1000000000000 ≤ v) (h2 : v ≤ 1000000000000) (h3 : -1000000000000 ≤ m.shift) (h4 : m.shift ≤ 1000000000000) : PSpec Try.prog 56 [.agg (encMv m), .int v] (enc3 (mvd false m v)) := by
 refine PSpec.of_vc (fun Γ => more8 false Γ.P Γ.fx) (fun Γ => more8_ok) Try.func56 rfl Try.call56 (by simp) ?_
 rintro ⟨P, N, w0, X, β0, fx, y, hy, pk, df⟩ rfl rfl rfl hoff rfl; change y.on = false at hoff
 skip
 refine Wp.draw (more := more8 true _ _) more8_det more8_ok FOK.wide rfl (by decide +kernel) (by conv => lhs; reduce) ?_
 repeat' ((try conv => whnf); first|refine s4 nm ?_|fail)
 exact PSub.refl _
theorem directed_spec (c : Cv) (back : Bool) : PSpec Try.prog 46 [.agg (encCv c), .bool back] (.agg [.int (cvFrom back c), .int (cvTo back c), .fn (dirFn back) []]) := by
 cases back with
 | true =>
   refine PSpec.of_vc (fun Γ => more8 false Γ.P Γ.fx) (fun Γ => more8_ok) Try.func46 rfl Try.call46 (by simp) ?_
   rintro ⟨P, N, w0, X, β0, fx, y, hy, pk, df⟩ rfl rfl rfl hoff rfl; change y.on = false at hoff
   repeat' ((try conv => whnf); first|refine aq rfl ?_|fail)
   exact PSub.refl _
 | false =>
   refine PSpec.of_vc (fun Γ => more8 false Γ.P Γ.fx) (fun Γ => more8_ok) Try.func46 rfl Try.call46 (by simp) ?_
   rintro ⟨P, N, w0, X, β0, fx, y, hy, pk, df⟩ rfl rfl rfl hoff rfl; change y.on = false at hoff
   repeat' ((try conv => whnf); first|refine aq rfl ?_|fail)
   exact PSub.refl _
end Go.Proofs.Ytihbkbioafdhjaa
/- Versions: the reference puts a claim among others. Conditions: none. -/
namespace Go.Proofs.Ytihbkbioafdhjaa
open Go.Avc
def insP (p : Int × Int) : List (Int × Int) → List (Int × Int)
 | [] => [p]
 | q :: l => if p.1 < q.1 then p :: q :: l else q :: insP p l
def putT (p : Int × Int) (l : List (Int × Int)) : List (Int × Int) × Bool := l.foldl (fun s q => if s.2 = false ∧ p.1 < q.1 then (s.1 ++ [p, q], true) else (s.1 ++ [q], s.2)) ([], false)
theorem putT_snoc (p : Int × Int) (l : List (Int × Int)) (q : Int × Int) : putT p (l ++ [q]) = if (putT p l).2 = false ∧ p.1 < q.1 then ((putT p l).1 ++ [p, q], true) else ((putT p l).1 ++ [q], (putT p l).2) := by unfold putT; rw [List.foldl_append]; rfl
theorem putF_true (p : Int × Int) : ∀ (l o : List (Int × Int)), l.foldl (fun (s : List (Int × Int) × Bool) q => if s.2 = false ∧ p.1 < q.1 then (s.1 ++ [p, q], true) else (s.1 ++ [q], s.2)) (o, true) = (o ++ l, true)
 | [], o => by simp
 | q :: l, o => by simp [putF_true p l]
theorem putF_eq (p : Int × Int) : ∀ (l o : List (Int × Int)), (let s := l.foldl (fun (s : List (Int × Int) × Bool) q => if s.2 = false ∧ p.1 < q.1 then (s.1 ++ [p, q], true) else (s.1 ++ [q], s.2)) (o, false); if s.2 = true then s.1 else s.1 ++ [p]) = o ++ insP p l
 | [], o => by simp [insP]
 | q :: l, o => by
   simp only [List.foldl_cons, insP, true_and]
   by_cases h : p.1 < q.1
   · simp only [if_pos h, putF_true]
     simp
   · simp only [if_neg h]
     have := putF_eq p l (o ++ [q])
     simp only at this
     rw [this]
     simp
theorem putT_end (p : Int × Int) (l : List (Int × Int)) : (if (putT p l).2 = true then (putT p l).1 else (putT p l).1 ++ [p]) = insP p l := by
 have := putF_eq p l []
 rw [List.nil_append] at this
 exact this
theorem putT_len (p : Int × Int) (l : List (Int × Int)) : (putT p l).1.length ≤ l.length + 1 := by
 have h : ∀ (l o : List (Int × Int)) (d : Bool), (l.foldl (fun (s : List (Int × Int) × Bool) q => if s.2 = false ∧ p.1 < q.1 then (s.1 ++ [p, q], true) else (s.1 ++ [q], s.2)) (o, d)).1.length ≤ o.length + l.length + (if d then 0 else 1) := by
   intro l
   induction l with
   | nil => intro o d; simp
   | cons q l ih =>
     intro o d
     simp only [List.foldl_cons]
     split
     · rename_i hh
       have := ih (o ++ [p, q]) true
       simp at this ⊢
       simp [hh.1]
       omega
     · have := ih (o ++ [q]) d
       simp at this ⊢
       omega
 have := h l [] false
 simpa [putT, Nat.add_comm] using this
def clOf (k : Int) (l : List (Int × Int)) : Cl := ⟨k, l.map (·.1), l.map (·.2)⟩
def ints (l : List Int) : List (List PV) := l.map fun x => [PV.int x]
theorem bsRow {B : Nat → Option Blk} {sz : Nat} {a b : List (List PV)} (h : a = b) : BSub B (some (.row sz a)) (.row sz b) := by rw [h]; rfl
attribute [local irreducible] PSub Wp PSpec Le Need Both
theorem put_spec (k : Int) (l : List (Int × Int)) (p : Int × Int) (hl : l.length ≤ 1000000) : PSpec Try.prog 39 [.agg (encCl (clOf k l)), .int p.1, .int p.2] (.agg (encCl (clOf k (insP p l)))) := by
 have l1 : (clOf k l).fields.length = l.length := by simp [clOf]
 have l2 : (clOf k l).values.length = l.length := by simp [clOf]
 refine PSpec.of_vc (fun Γ => more8 false Γ.P Γ.fx) (fun Γ => more8_ok) Try.func39 rfl Try.call39 (by simp) ?_
 rintro ⟨P, N, w0, X, β0, fx, y, hy, pk, df⟩ rfl rfl rfl hoff rfl; change y.on = false at hoff
 repeat' ((try conv => whnf); first|refine aq rfl ?_|fail)
 refine Wp.loop (fun i : Nat => ⟨[(1, .int p.1), (2, .int p.2), (3, .loc 3 0 0), (6, .loc 6 0 0), (7, .loc 7 0 0), (8, .bool (putT p (l.take i)).2), (9, .int i)],
   [(3, some (.box (pures (encCl (clOf k l))))), (6, some (.box [.int 0, .pure (.val (.slice none 0 0)), .pure (.val (.slice none 0 0))])), (7, some (.box [.int k, .lsl 300 0 (putT p (l.take i)).1.length, .lsl 301 0 (putT p (l.take i)).1.length])), (300, some (.row 1 (ints ((putT p (l.take i)).1.map (·.1))))), (301, some (.row 1 (ints ((putT p (l.take i)).1.map (·.2)))))], [3, 6, 7, 300, 301]⟩) (fun i => i ≤ l.length) (fun i => l.length - i) 0
   (Le.trans (Le.virt (k := 300) (sz := 1) rfl rfl (by omega)) (Le.trans (Le.virt (k := 301) (sz := 1) rfl rfl (by omega)) (Le.of ?_ ?_ rfl rfl rfl))) (by omega) ?_
 · (repeat' (first|exact trivial|refine aq ?_ ?_|exact oq|fail))
 · (repeat' (first|exact trivial|exact rfl|refine aq ?_ ?_|refine Exists.intro _ (aq rfl ?_)|exact oq|exact l6 rfl|fail))
 intro i hi
 have hb := putT_len p (l.take i)
 rw [List.length_take] at hb
 by_cases hi2 : i < l.length
 · have f1 : i < (clOf k l).fields.length := by omega
   have v1 : i < (clOf k l).values.length := by omega
   have ef : (clOf k l).fields[i] = l[i].1 := by simp [clOf]
   have ev : (clOf k l).values[i] = l[i].2 := by simp [clOf]
   have hs := putT_snoc p (l.take i) l[i]
   rw [← List.take_succ_eq_append_getElem hi2] at hs
   obtain ⟨o, d⟩ : ∃ o, o = (putT p (l.take i)).1 := ⟨_, rfl⟩
   obtain ⟨dn, hdn⟩ : ∃ dn, dn = (putT p (l.take i)).2 := ⟨_, rfl⟩
   rw [← d, ← hdn] at hs
   rw [← d] at hb
   rw [← d, ← hdn]
   have lo1 : (ints (o.map (·.1))).length = o.length := by simp [ints]
   have lo2 : (ints (o.map (·.2))).length = o.length := by simp [ints]
   cases dn with
   | true =>
     rw [if_neg (fun h => by cases h.1)] at hs
     have hs1 := congrArg Prod.fst hs
     have hs2 := congrArg Prod.snd hs
     dsimp only at hs1 hs2
     refine code_sound (more := more8 false _ _) more8_ok FOK.wide _ ?_
     repeat' ((try conv => whnf); first|(first|refine k3 ?_ ?_|refine k4 ?_ ?_) <;> intro hb <;> (try rw [lM] at hb) <;> try (exfalso; omega)|fail)
     refine Wp.draw (more := more8 true _ _) more8_det more8_ok FOK.wide rfl (by decide +kernel) (by conv => lhs; reduce) ?_
     repeat' ((try conv => whnf); first|refine aq rfl ?_|refine s5 nm nm ?_|refine aq bd ?_|fail)
     refine Wp.draw (more := more8 true _ _) more8_det more8_ok FOK.wide rfl (by decide +kernel) (by conv => lhs; reduce) ?_
     repeat' ((try conv => whnf); first|refine aq rfl ?_|refine s4 nm ?_|refine s5 nm nm ?_|refine aq bd ?_|fail)
     refine ⟨i + 1, Le.map [(300, 51), (301, 61)] ?_ ?_ rfl rfl rfl rfl, by omega, by omega⟩
     · rw [hs1, hs2]
       (repeat' (first|exact trivial|refine aq ?_ ?_|exact oq|fail))
       all_goals first
         | (refine SubA.lsl ?_; focus (simp [ints]; done))
         | (refine rowEq ?_; focus (simp [ints, ef, ev]; done))
     · rw [hs1, hs2]
       (repeat' (first|exact trivial|refine aq ?_ ?_|refine Exists.intro _ (aq rfl ?_)|exact oq|exact SubA.lsl ls|fail))
       all_goals first
         | (refine SubA.lsl ?_; focus (simp [ints]; done))
         | (refine rowEq ?_; focus (simp [ints, ef, ev]; done))
   | false =>
     by_cases hlt : p.1 < l[i].1
     · rw [if_pos ⟨rfl, hlt⟩] at hs
       have hs1 := congrArg Prod.fst hs
       have hs2 := congrArg Prod.snd hs
       dsimp only at hs1 hs2
       have hlt2 : p.1 < (clOf k l).fields[i] := by rw [ef]; exact hlt
       refine code_sound (more := more8 false _ _) more8_ok FOK.wide _ ?_
       repeat' ((try conv => whnf); first|(first|refine k3 ?_ ?_|refine k4 ?_ ?_) <;> intro hb <;> (try rw [lM] at hb) <;> try (exfalso; omega)|refine aq rfl ?_|refine s5 nm nm ?_|refine aq bd ?_|fail)
       refine Wp.draw (more := more8 true _ _) more8_det more8_ok FOK.wide rfl (by decide +kernel) (by conv => lhs; reduce) ?_
       repeat' ((try conv => whnf); first|refine aq rfl ?_|refine s5 nm nm ?_|refine aq bd ?_|fail)
       refine Wp.draw (more := more8 true _ _) more8_det more8_ok FOK.wide rfl (by decide +kernel) (by conv => lhs; reduce) ?_
       repeat' ((try conv => whnf); first|refine aq rfl ?_|refine s4 nm ?_|refine s5 nm nm ?_|refine aq bd ?_|fail)
       refine ⟨i + 1, Le.map [(300, 51), (301, 61)] ?_ ?_ rfl rfl rfl rfl, by omega, by omega⟩
       · rw [hs1, hs2]
         (repeat' (first|exact trivial|refine aq ?_ ?_|exact oq|fail))
         all_goals first
           | (refine SubA.lsl ?_; focus (simp [ints]; done))
           | (refine rowEq ?_; focus (simp [ints, ef, ev]; done))
       · rw [hs1, hs2]
         (repeat' (first|exact trivial|refine aq ?_ ?_|refine Exists.intro _ (aq rfl ?_)|exact oq|exact SubA.lsl ls|fail))
         all_goals first
           | (refine SubA.lsl ?_; focus (simp [ints]; done))
           | (refine rowEq ?_; focus (simp [ints, ef, ev]; done))
     · rw [if_neg (fun h => hlt h.2)] at hs
       have hs1 := congrArg Prod.fst hs
       have hs2 := congrArg Prod.snd hs
       dsimp only at hs1 hs2
       have hlt2 : ¬ p.1 < (clOf k l).fields[i] := by rw [ef]; exact hlt
       refine code_sound (more := more8 false _ _) more8_ok FOK.wide _ ?_
       repeat' ((try conv => whnf); first|(first|refine k3 ?_ ?_|refine k4 ?_ ?_) <;> intro hb <;> (try rw [lM] at hb) <;> try (exfalso; omega)|refine s5 nm nm ?_|fail)
       refine Wp.draw (more := more8 true _ _) more8_det more8_ok FOK.wide rfl (by decide +kernel) (by conv => lhs; reduce) ?_
       repeat' ((try conv => whnf); first|refine aq rfl ?_|refine s5 nm nm ?_|refine aq bd ?_|fail)
       refine Wp.draw (more := more8 true _ _) more8_det more8_ok FOK.wide rfl (by decide +kernel) (by conv => lhs; reduce) ?_
       repeat' ((try conv => whnf); first|refine aq rfl ?_|refine s4 nm ?_|refine s5 nm nm ?_|refine aq bd ?_|fail)
       refine ⟨i + 1, Le.map [(300, 51), (301, 61)] ?_ ?_ rfl rfl rfl rfl, by omega, by omega⟩
       · rw [hs1, hs2]
         (repeat' (first|exact trivial|refine aq ?_ ?_|exact oq|fail))
         all_goals first
           | (refine SubA.lsl ?_; focus (simp [ints]; done))
           | (refine rowEq ?_; focus (simp [ints, ef, ev]; done))
       · rw [hs1, hs2]
         (repeat' (first|exact trivial|refine aq ?_ ?_|refine Exists.intro _ (aq rfl ?_)|exact oq|exact SubA.lsl ls|fail))
         all_goals first
           | (refine SubA.lsl ?_; focus (simp [ints]; done))
           | (refine rowEq ?_; focus (simp [ints, ef, ev]; done))
 · have e : i = l.length := by omega
   subst e
   rw [List.take_length]
   have he := putT_end p l
   obtain ⟨o, d⟩ : ∃ o, o = (putT p l).1 := ⟨_, rfl⟩
   obtain ⟨dn, hdn⟩ : ∃ dn, dn = (putT p l).2 := ⟨_, rfl⟩
   rw [List.take_length, ← d] at hb
   rw [← d, ← hdn] at he
   rw [← d, ← hdn]
   have lo1 : (ints (o.map (·.1))).length = o.length := by simp [ints]
   have lo2 : (ints (o.map (·.2))).length = o.length := by simp [ints]
   cases dn with
   | true =>
     rw [if_pos rfl] at he
     refine code_sound (more := more8 false _ _) more8_ok FOK.wide _ ?_
     repeat' ((try conv => whnf); first|(first|refine k3 ?_ ?_|refine k4 ?_ ?_) <;> intro hb <;> (try rw [lM] at hb) <;> try (exfalso; omega)|refine aq rfl ?_|fail)
     refine PSub.of_eq ?_
     rw [← he]
     simp [encCl, clOf, encIs, ints, List.take_of_length_le]
   | false =>
     rw [if_neg (by simp)] at he
     refine code_sound (more := more8 false _ _) more8_ok FOK.wide _ ?_
     repeat' ((try conv => whnf); first|(first|refine k3 ?_ ?_|refine k4 ?_ ?_) <;> intro hb <;> (try rw [lM] at hb) <;> try (exfalso; omega)|refine aq rfl ?_|refine aq bd ?_|fail)
     refine PSub.of_eq ?_
     rw [← he]
     simp [encCl, clOf, encIs, ints, List.take_of_length_le]
end Go.Proofs.Ytihbkbioafdhjaa
/- Versions: the reference turns a conversion. Conditions: none. -/
namespace Go.Proofs.Ytihbkbioafdhjaa
open Go.Avc
def trn (m : Mv) : Mv := ⟨⟨#[]⟩, ⟨#[]⟩, m.a, m.b, -m.shift⟩
def turnC (c : Cv) : Cv := ⟨⟨#[]⟩, ⟨#[]⟩, c.b, c.a, c.moves.map trn⟩
attribute [local irreducible] PSub Wp PSpec Le Need Both
theorem turned_spec (c : Cv) (hl : c.moves.length ≤ 1000000) (hs : ∀ m ∈ c.moves, -1000000000000 ≤ m.shift ∧ m.shift ≤ 1000000000000) : PSpec Try.prog 27 [.agg (encCv c)] (.agg (encCv (turnC c))) := by
 refine PSpec.of_vc (fun Γ => more8 false Γ.P Γ.fx) (fun Γ => more8_ok) Try.func27 rfl Try.call27 (by simp) ?_
 rintro ⟨P, N, w0, X, β0, fx, y, hy, pk, df⟩ rfl rfl rfl hoff rfl; change y.on = false at hoff
 repeat' ((try conv => whnf); first|refine aq rfl ?_|fail)
 refine Wp.loop (fun i : Nat => ⟨[(1, .loc 1 0 0), (2, .loc 2 0 0), (3, .loc 3 0 0), (4, .int i)],
   [(1, some (.box (pures (encCv c)))), (2, some (.box [.pure (PV.str ⟨#[]⟩), .pure (PV.str ⟨#[]⟩), .int 0, .int 0, .pure (.val (.slice none 0 0))])), (3, some (.box [.pure (PV.str ⟨#[]⟩), .pure (PV.str ⟨#[]⟩), .int c.b, .int c.a, .lsl 300 0 i])), (300, some (.row 5 (((c.moves.take i).map trn).map encMv)))], [1, 2, 3, 300]⟩) (fun i => i ≤ c.moves.length) (fun i => c.moves.length - i) 0
   (Le.trans (Le.virt (k := 300) (sz := 5) rfl rfl (by omega)) (Le.of ?_ ?_ rfl rfl rfl)) (by omega) ?_
 · (repeat' (first|exact trivial|refine aq ?_ ?_|exact oq|fail))
 · (repeat' (first|exact trivial|exact rfl|refine aq ?_ ?_|refine Exists.intro _ (aq rfl ?_)|exact oq|exact l6 rfl|fail))
 intro i hi
 by_cases hi2 : i < c.moves.length
 · have hsh := hs _ (List.getElem_mem hi2)
   have ht : ((c.moves.take (i + 1)).map trn).map encMv = ((c.moves.take i).map trn).map encMv ++ [encMv (trn c.moves[i])] := by
     rw [List.take_succ_eq_append_getElem hi2, List.map_append, List.map_append]; rfl
   have hlt : (((c.moves.take i).map trn).map encMv).length = i := by simp; omega
   refine code_sound (more := more8 false _ _) more8_ok FOK.wide _ ?_
   repeat' ((try conv => whnf); first|(first|refine k3 ?_ ?_|refine k4 ?_ ?_) <;> intro hb <;> (try rw [lM] at hb) <;> try (exfalso; omega)|fail)
   refine Wp.draw (more := more8 true _ _) more8_det more8_ok FOK.wide rfl (by decide +kernel) (by conv => lhs; reduce) ?_
   repeat' ((try conv => whnf); first|refine aq rfl ?_|refine s4 nm ?_|refine s5 nm nm ?_|refine aq bd ?_|fail)
   refine ⟨i + 1, Le.map [(300, 40)] ?_ ?_ rfl rfl rfl rfl, by omega, by omega⟩
   · rw [ht]
     (repeat' (first|exact trivial|refine aq ?_ ?_|exact oq|fail))
     all_goals first
       | (refine SubA.lsl ?_; focus (simp; omega; done))
       | (refine rowEq ?_; focus (simp [encMv, trn]; done))
   · rw [ht]
     (repeat' (first|exact trivial|refine aq ?_ ?_|refine Exists.intro _ (aq rfl ?_)|exact oq|exact SubA.lsl ls|fail))
     all_goals first
       | (refine SubA.lsl ?_; focus (simp; omega; done))
       | (refine rowEq ?_; focus (simp [encMv, trn]; done))
 · have e : i = c.moves.length := by omega
   subst e
   rw [List.take_length]
   refine code_sound (more := more8 false _ _) more8_ok FOK.wide _ ?_
   repeat' ((try conv => whnf); first|(first|refine k3 ?_ ?_|refine k4 ?_ ?_) <;> intro hb <;> (try rw [lM] at hb) <;> try (exfalso; omega)|refine aq rfl ?_|fail)
   refine PSub.of_eq ?_
   simp [encCv, turnC, List.take_of_length_le]
end Go.Proofs.Ytihbkbioafdhjaa
/- Versions: the reference performs a conversion. Conditions: none. -/
namespace Go.Proofs.Ytihbkbioafdhjaa
open Go.Avc
def insAll (l : List (Int × Int)) : List (Int × Int) := l.foldl (fun o p => insP p o) []
theorem insAll_snoc (l : List (Int × Int)) (p : Int × Int) : insAll (l ++ [p]) = insP p (insAll l) := by unfold insAll; rw [List.foldl_append]; rfl
theorem insP_len (p : Int × Int) : ∀ l : List (Int × Int), (insP p l).length = l.length + 1
 | [] => rfl
 | q :: l => by
   unfold insP
   split
   · rfl
   · simp [insP_len p l]
theorem insF_len : ∀ (l o : List (Int × Int)), (l.foldl (fun o p => insP p o) o).length = o.length + l.length
 | [], o => by simp
 | p :: l, o => by rw [List.foldl_cons, insF_len l, insP_len]; simp; omega
theorem insAll_len (l : List (Int × Int)) : (insAll l).length = l.length := by unfold insAll; rw [insF_len]; simp
def prZ (f v : Int) : List (Int × Int) := if f = 0 then [(0, v)] else []
def prM (mv : List Mv) (f v : Int) : List (Int × Int) := (mv.filter fun m => decide (m.a = f)).map fun m => (m.b, v + m.shift)
def prI (mv : List Mv) (c : Cl) : Nat → List (Int × Int)
 | 0 => []
 | i + 1 => prI mv c i ++ (prZ (c.fields.getD i 0) (c.values.getD i 0) ++ prM mv (c.fields.getD i 0) (c.values.getD i 0))
theorem prZ_len (f v : Int) : (prZ f v).length ≤ 1 := by unfold prZ; split <;> simp
theorem prM_len (mv : List Mv) (f v : Int) : (prM mv f v).length ≤ mv.length := by unfold prM; rw [List.length_map]; exact List.length_filter_le _ _
theorem prI_len (mv : List Mv) (c : Cl) (h : mv.length ≤ 100) : ∀ i, (prI mv c i).length ≤ i * 101
 | 0 => by simp [prI]
 | i + 1 => by
   have h1 := prI_len mv c h i
   have h2 := prZ_len (c.fields.getD i 0) (c.values.getD i 0)
   have h3 := prM_len mv (c.fields.getD i 0) (c.values.getD i 0)
   simp only [prI, List.length_append]
   omega
theorem prM_next {mv : List Mv} {k : Nat} (h : k < mv.length) (f v : Int) : prM (mv.take (k + 1)) f v = if mv[k].a = f then prM (mv.take k) f v ++ [(mv[k].b, v + mv[k].shift)] else prM (mv.take k) f v := by
 unfold prM
 rw [List.take_succ_eq_append_getElem h, List.filter_append]
 by_cases e : mv[k].a = f <;> simp [e]
def perfR (s : Src) (v : Cv) (c : Cl) : Cl × Int := if validP s v.a c then (clOf v.b (insAll (prI v.moves c c.fields.length)), 0) else (⟨0, [], []⟩, 150)
def encCE (x : Cl × Int) : PV := .tup [.agg (encCl x.1), .int x.2]
theorem valOK_small {s : Src} {k f v : Int} (h : valOK s k f v = true) : 0 ≤ v ∧ v ≤ 1048576 := by
 unfold valOK at h
 split at h
 · rw [Bool.and_eq_true, decide_eq_true_eq, decide_eq_true_eq] at h
   have := (tyOK_small h.1).1
   obtain ⟨a, b, c, d⟩ := this
   omega
 · cases h
theorem subNil {B : Nat → Option Blk} : SubA B (.pure (.val (.slice none 0 0))) (.pure (.sl 1 [])) := .inr (.inr (.inl ⟨_, _, rfl, rfl, PSub.nil 1⟩))
attribute [local irreducible] PSub Wp PSpec Le Need Both
theorem rperform_spec (s : Src) (hs : s.sz) (v : Cv) (c : Cl) (k : Nat) (hk : k < s.schemas.length) (hvk : v.a = k) (hf : c.fields.length ≤ 100) (hm : v.moves.length ≤ 100) (hsh : ∀ m ∈ v.moves, -1000000000000 ≤ m.shift ∧ m.shift ≤ 1000000000000) :
   PSpec Try.prog 26 [.agg (encSrc s), .agg (encCv v), .agg (encCl c)] (encCE (perfR s v c)) := by
 have q := rvalid_spec s hs k hk c (by omega)
 rw [← hvk] at q
 have lF : (c.fields.map fun x => [PV.int x]).length = c.fields.length := List.length_map ..
 have lM : (v.moves.map encMv).length = v.moves.length := List.length_map ..
 by_cases hv : validP s v.a c
 case neg =>
   rw [decide_eq_false hv] at q
   rw [show perfR s v c = (⟨0, [], []⟩, 150) from if_neg hv]
   refine PSpec.of_vc (fun Γ => more8 false Γ.P Γ.fx) (fun Γ => more8_ok) Try.func26 rfl Try.call26 (by simp) ?_
   rintro ⟨P, N, w0, X, β0, fx, y, hy, pk, df⟩ rfl rfl rfl hoff rfl; change y.on = false at hoff
   skip
   refine .inl ⟨_, q, ?_⟩
   repeat' ((try conv => whnf); first|refine aq rfl ?_|fail)
   exact PSub.tup ⟨PSub.agg ⟨PSub.refl _, PSub.nil 1, PSub.nil 1, trivial⟩, PSub.refl _, trivial⟩
 rw [decide_eq_true hv] at q
 rw [show perfR s v c = (clOf v.b (insAll (prI v.moves c c.fields.length)), 0) from if_pos hv]
 obtain ⟨v1, v2, v3⟩ := hv
 refine PSpec.of_vc (fun Γ => more8 false Γ.P Γ.fx) (fun Γ => more8_ok) Try.func26 rfl Try.call26 (by simp) ?_
 rintro ⟨P, N, w0, X, β0, fx, y, hy, pk, df⟩ rfl rfl rfl hoff rfl; change y.on = false at hoff
 skip
 refine .inl ⟨_, q, ?_⟩
 repeat' ((try conv => whnf); first|refine aq rfl ?_|fail)
 refine Wp.loop (fun i : Nat => ⟨[(4, .loc 4 0 0), (5, .loc 5 0 0), (6, .loc 6 0 0), (8, .loc 8 0 0), (9, .int i)],
   [(4, some (.box (pures (encCv v)))), (5, some (.box (pures (encCl c)))), (6, some (.box [.int 0, .pure (.val (.slice none 0 0)), .pure (.val (.slice none 0 0))])), (8, some (.box (pures (encCl (clOf v.b (insAll (prI v.moves c i)))))))], [4, 5, 6, 8]⟩) (fun i => i ≤ c.fields.length) (fun i => c.fields.length - i) 0
   (Le.of ?_ ?_ rfl rfl rfl) (by omega) ?_
 · (repeat' (first|exact trivial|refine aq ?_ ?_|exact oq|fail))
 · (repeat' (first|exact trivial|refine aq ?_ ?_|refine Exists.intro _ (aq rfl ?_)|exact oq|fail))
   all_goals exact subNil
 intro i hi
 by_cases hi2 : i < c.fields.length
 · have hv2 : i < c.values.length := by omega
   have g1 := getD_at hi2 (0 : Int)
   have g2 := getD_at hv2 (0 : Int)
   have hvs := (v3 i hi2).1
   rw [g1, g2] at hvs
   obtain ⟨w1, w2⟩ := valOK_small hvs
   have hb := prI_len v.moves c hm i
   have hz := prZ_len c.fields[i] c.values[i]
   have hnx : prI v.moves c (i + 1) = prI v.moves c i ++ (prZ c.fields[i] c.values[i] ++ prM v.moves c.fields[i] c.values[i]) := by rw [prI, g1, g2]
   by_cases h0 : c.fields[i] = 0
   · have hE0 : insAll (prI v.moves c i ++ (prZ c.fields[i] c.values[i] ++ prM (v.moves.take 0) c.fields[i] c.values[i])) = insP (0, c.values[i]) (insAll (prI v.moves c i)) := by
       rw [← insAll_snoc]; simp [prZ, h0, prM]
     have qz := put_spec v.b (insAll (prI v.moves c i)) (0, c.values[i]) (by rw [insAll_len]; omega)
     refine code_sound (more := more8 false _ _) more8_ok FOK.wide _ ?_
     repeat' ((try conv => whnf); first|(first|refine k3 ?_ ?_|refine k4 ?_ ?_) <;> intro hb <;> (try rw [lM] at hb) <;> try (exfalso; omega)|refine s5 nm nm ?_|fail)
     refine Wp.draw (more := more8 true _ _) more8_det more8_ok FOK.wide rfl (by decide +kernel) (by conv => lhs; reduce) ?_
     repeat' ((try conv => whnf); first|refine s5 nm nm ?_|fail)
     refine ⟨_, qz, ?_⟩
     repeat' ((try conv => whnf); first|refine aq rfl ?_|fail)
     refine Wp.loop (fun k : Nat => ⟨[(4, .loc 4 0 0), (5, .loc 5 0 0), (6, .loc 6 0 0), (8, .loc 8 0 0), (9, .int i), (10, .int k)],
       [(4, some (.box (pures (encCv v)))), (5, some (.box (pures (encCl c)))), (6, some (.box [.int 0, .pure (.val (.slice none 0 0)), .pure (.val (.slice none 0 0))])), (8, some (.box (pures (encCl (clOf v.b (insAll (prI v.moves c i ++ (prZ c.fields[i] c.values[i] ++ prM (v.moves.take k) c.fields[i] c.values[i]))))))))], [4, 5, 6, 8]⟩) (fun k => k ≤ v.moves.length) (fun k => v.moves.length - k) 0
       (Le.of ?_ ?_ rfl rfl rfl) (by omega) ?_
     · (repeat' (first|exact trivial|refine aq ?_ ?_|exact oq|fail))
     · rw [hE0]
       (repeat' (first|exact trivial|refine aq ?_ ?_|refine Exists.intro _ (aq rfl ?_)|exact oq|fail))
     intro k hk
     by_cases hk2 : k < v.moves.length
     · have hmv := hsh _ (List.getElem_mem hk2)
       have hn := prM_next hk2 c.fields[i] c.values[i]
       have hpm := prM_len (v.moves.take k) c.fields[i] c.values[i]
       rw [List.length_take] at hpm
       by_cases hma : v.moves[k].a = c.fields[i]
       · rw [if_pos hma] at hn
         have qp := put_spec v.b (insAll (prI v.moves c i ++ (prZ c.fields[i] c.values[i] ++ prM (v.moves.take k) c.fields[i] c.values[i]))) (v.moves[k].b, c.values[i] + v.moves[k].shift) (by rw [insAll_len, List.length_append, List.length_append]; omega)
         rw [← insAll_snoc, List.append_assoc, List.append_assoc, ← hn] at qp
         refine code_sound (more := more8 false _ _) more8_ok FOK.wide _ ?_
         repeat' ((try conv => whnf); first|(first|refine k3 ?_ ?_|refine k4 ?_ ?_) <;> intro hb <;> (try rw [lM] at hb) <;> try (exfalso; omega)|fail)
         refine Wp.draw (more := more8 true _ _) more8_det more8_ok FOK.wide rfl (by decide +kernel) (by conv => lhs; reduce) ?_
         repeat' ((try conv => whnf); first|(first|refine k3 ?_ ?_|refine k4 ?_ ?_) <;> intro hb <;> (try rw [lM] at hb) <;> try (exfalso; omega)|refine s5 nm nm ?_|fail)
         refine Wp.draw (more := more8 true _ _) more8_det more8_ok FOK.wide rfl (by decide +kernel) (by conv => lhs; reduce) ?_
         repeat' ((try conv => whnf); first|refine s4 nm ?_|refine s5 nm nm ?_|fail)
         refine ⟨_, qp, ?_⟩
         repeat' ((try conv => whnf); first|refine aq rfl ?_|refine s4 nm ?_|fail)
         exact ⟨k + 1, Le.of (by (repeat' (first|exact trivial|refine aq ?_ ?_|exact oq|fail))) (by (repeat' (first|exact trivial|refine aq ?_ ?_|refine Exists.intro _ (aq rfl ?_)|exact oq|fail))) rfl rfl rfl, by omega, by omega⟩
       · rw [if_neg hma] at hn
         refine code_sound (more := more8 false _ _) more8_ok FOK.wide _ ?_
         repeat' ((try conv => whnf); first|(first|refine k3 ?_ ?_|refine k4 ?_ ?_) <;> intro hb <;> (try rw [lM] at hb) <;> try (exfalso; omega)|fail)
         refine Wp.draw (more := more8 true _ _) more8_det more8_ok FOK.wide rfl (by decide +kernel) (by conv => lhs; reduce) ?_
         repeat' ((try conv => whnf); first|(first|refine k3 ?_ ?_|refine k4 ?_ ?_) <;> intro hb <;> (try rw [lM] at hb) <;> try (exfalso; omega)|refine s4 nm ?_|refine s5 nm nm ?_|fail)
         refine ⟨k + 1, Le.of (by (repeat' (first|exact trivial|refine aq ?_ ?_|exact oq|fail))) ?_ rfl rfl rfl, by omega, by omega⟩
         rw [hn]
         (repeat' (first|exact trivial|refine aq ?_ ?_|refine Exists.intro _ (aq rfl ?_)|exact oq|fail))
     · have e : k = v.moves.length := by omega
       subst e
       refine code_sound (more := more8 false _ _) more8_ok FOK.wide _ ?_
       repeat' ((try conv => whnf); first|(first|refine k3 ?_ ?_|refine k4 ?_ ?_) <;> intro hb <;> (try rw [lM] at hb) <;> try (exfalso; omega)|refine s4 nm ?_|fail)
       refine ⟨i + 1, Le.of (by (repeat' (first|exact trivial|refine aq ?_ ?_|exact oq|fail))) ?_ rfl rfl rfl, by omega, by omega⟩
       rw [hnx, List.take_length]
       (repeat' (first|exact trivial|refine aq ?_ ?_|refine Exists.intro _ (aq rfl ?_)|exact oq|fail))
   · have hE0 : insAll (prI v.moves c i ++ (prZ c.fields[i] c.values[i] ++ prM (v.moves.take 0) c.fields[i] c.values[i])) = insAll (prI v.moves c i) := by
       simp [prZ, h0, prM]
     refine code_sound (more := more8 false _ _) more8_ok FOK.wide _ ?_
     repeat' ((try conv => whnf); first|(first|refine k3 ?_ ?_|refine k4 ?_ ?_) <;> intro hb <;> (try rw [lM] at hb) <;> try (exfalso; omega)|refine s5 nm nm ?_|fail)
     refine Wp.loop (fun k : Nat => ⟨[(4, .loc 4 0 0), (5, .loc 5 0 0), (6, .loc 6 0 0), (8, .loc 8 0 0), (9, .int i), (10, .int k)],
       [(4, some (.box (pures (encCv v)))), (5, some (.box (pures (encCl c)))), (6, some (.box [.int 0, .pure (.val (.slice none 0 0)), .pure (.val (.slice none 0 0))])), (8, some (.box (pures (encCl (clOf v.b (insAll (prI v.moves c i ++ (prZ c.fields[i] c.values[i] ++ prM (v.moves.take k) c.fields[i] c.values[i]))))))))], [4, 5, 6, 8]⟩) (fun k => k ≤ v.moves.length) (fun k => v.moves.length - k) 0
       (Le.of ?_ ?_ rfl rfl rfl) (by omega) ?_
     · (repeat' (first|exact trivial|refine aq ?_ ?_|exact oq|fail))
     · rw [hE0]
       (repeat' (first|exact trivial|refine aq ?_ ?_|refine Exists.intro _ (aq rfl ?_)|exact oq|fail))
     intro k hk
     by_cases hk2 : k < v.moves.length
     · have hmv := hsh _ (List.getElem_mem hk2)
       have hn := prM_next hk2 c.fields[i] c.values[i]
       have hpm := prM_len (v.moves.take k) c.fields[i] c.values[i]
       rw [List.length_take] at hpm
       by_cases hma : v.moves[k].a = c.fields[i]
       · rw [if_pos hma] at hn
         have qp := put_spec v.b (insAll (prI v.moves c i ++ (prZ c.fields[i] c.values[i] ++ prM (v.moves.take k) c.fields[i] c.values[i]))) (v.moves[k].b, c.values[i] + v.moves[k].shift) (by rw [insAll_len, List.length_append, List.length_append]; omega)
         rw [← insAll_snoc, List.append_assoc, List.append_assoc, ← hn] at qp
         refine code_sound (more := more8 false _ _) more8_ok FOK.wide _ ?_
         repeat' ((try conv => whnf); first|(first|refine k3 ?_ ?_|refine k4 ?_ ?_) <;> intro hb <;> (try rw [lM] at hb) <;> try (exfalso; omega)|fail)
         refine Wp.draw (more := more8 true _ _) more8_det more8_ok FOK.wide rfl (by decide +kernel) (by conv => lhs; reduce) ?_
         repeat' ((try conv => whnf); first|(first|refine k3 ?_ ?_|refine k4 ?_ ?_) <;> intro hb <;> (try rw [lM] at hb) <;> try (exfalso; omega)|refine s5 nm nm ?_|fail)
         refine Wp.draw (more := more8 true _ _) more8_det more8_ok FOK.wide rfl (by decide +kernel) (by conv => lhs; reduce) ?_
         repeat' ((try conv => whnf); first|refine s4 nm ?_|refine s5 nm nm ?_|fail)
         refine ⟨_, qp, ?_⟩
         repeat' ((try conv => whnf); first|refine aq rfl ?_|refine s4 nm ?_|fail)
         exact ⟨k + 1, Le.of (by (repeat' (first|exact trivial|refine aq ?_ ?_|exact oq|fail))) (by (repeat' (first|exact trivial|refine aq ?_ ?_|refine Exists.intro _ (aq rfl ?_)|exact oq|fail))) rfl rfl rfl, by omega, by omega⟩
       · rw [if_neg hma] at hn
         refine code_sound (more := more8 false _ _) more8_ok FOK.wide _ ?_
         repeat' ((try conv => whnf); first|(first|refine k3 ?_ ?_|refine k4 ?_ ?_) <;> intro hb <;> (try rw [lM] at hb) <;> try (exfalso; omega)|fail)
         refine Wp.draw (more := more8 true _ _) more8_det more8_ok FOK.wide rfl (by decide +kernel) (by conv => lhs; reduce) ?_
         repeat' ((try conv => whnf); first|(first|refine k3 ?_ ?_|refine k4 ?_ ?_) <;> intro hb <;> (try rw [lM] at hb) <;> try (exfalso; omega)|refine s4 nm ?_|refine s5 nm nm ?_|fail)
         refine ⟨k + 1, Le.of (by (repeat' (first|exact trivial|refine aq ?_ ?_|exact oq|fail))) ?_ rfl rfl rfl, by omega, by omega⟩
         rw [hn]
         (repeat' (first|exact trivial|refine aq ?_ ?_|refine Exists.intro _ (aq rfl ?_)|exact oq|fail))
     · have e : k = v.moves.length := by omega
       subst e
       refine code_sound (more := more8 false _ _) more8_ok FOK.wide _ ?_
       repeat' ((try conv => whnf); first|(first|refine k3 ?_ ?_|refine k4 ?_ ?_) <;> intro hb <;> (try rw [lM] at hb) <;> try (exfalso; omega)|refine s4 nm ?_|fail)
       refine ⟨i + 1, Le.of (by (repeat' (first|exact trivial|refine aq ?_ ?_|exact oq|fail))) ?_ rfl rfl rfl, by omega, by omega⟩
       rw [hnx, List.take_length]
       (repeat' (first|exact trivial|refine aq ?_ ?_|refine Exists.intro _ (aq rfl ?_)|exact oq|fail))
 · have e : i = c.fields.length := by omega
   subst e
   refine code_sound (more := more8 false _ _) more8_ok FOK.wide _ ?_
   repeat' ((try conv => whnf); first|(first|refine k3 ?_ ?_|refine k4 ?_ ?_) <;> intro hb <;> (try rw [lM] at hb) <;> try (exfalso; omega)|refine aq rfl ?_|fail)
   exact PSub.refl _
end Go.Proofs.Ytihbkbioafdhjaa
