/- Evidence: the records with the one before, and the conditions. Conditions: none. -/
import Derived.Test.YtjfjpnefohbobaaGreatDoorWd
import Derived.Test.YtjfjpnefohbobaaGreatDoorWk
set_option linter.unusedSimpArgs false
set_option linter.unusedVariables false
set_option maxRecDepth 20000
set_option maxHeartbeats 4000000
namespace Go.Proofs.YtjfjpnefohbobaaGreatDoor
open Go.Avc
def zeroR : Rec := ⟨0, 0, 0, 0, [], z32⟩
def lastR (l : List Rec) (k : Nat) : Rec := if h : 0 < k ∧ k ≤ l.length then l[k - 1]'(by omega) else zeroR
theorem lastR_zero (l : List Rec) : lastR l 0 = zeroR := by unfold lastR; rw [dif_neg (by omega)]
theorem lastR_succ {l : List Rec} {k : Nat} (h : k < l.length) : lastR l (k + 1) = l[k] := by unfold lastR; rw [dif_pos (by omega)]; rfl
def pairs (l : List Rec) : List (List PV) := (List.range l.length).map fun k => [.agg (encR (lastR l k)), .agg (encR (l.getD k zeroR))]
theorem pairs_len (l : List Rec) : (pairs l).length = l.length := by simp [pairs]
theorem pairs_get {l : List Rec} {k : Nat} (h : k < l.length) : (pairs l)[k]? = some [.agg (encR (lastR l k)), .agg (encR l[k])] := by
 unfold pairs
 rw [List.getElem?_map, List.getElem?_range h, Option.map_some, ← getD_of l zeroR k h]
theorem zero_sub {B : Nat → Option Blk} : SubA B (.pure (.val (.slice none 0 0))) (.pure (encB [])) := .inr (.inr (.inl ⟨_, _, rfl, rfl, PSub.nil 1⟩))
attribute [local irreducible] PSub Wp PSpec Le Need Both
attribute [local irreducible] recE recD tagged sha headOf lastR
theorem linked_spec (l : List Rec) : PSpec Tryz.prog 119 [encRs l] (.fn 144 [.ptr [encRs l]]) := by
 refine PSpec.of_vc (fun Γ => more6 false Γ.P Γ.fx) (fun Γ => more6_ok) Tryz.func119 rfl Tryz.call119 (by simp) ?_
 rintro ⟨P, N, w0, X, β0, fx, y, hy, pk, df⟩ rfl rfl rfl hoff rfl; change y.on = false at hoff
 skip
 exact PSub.refl _
theorem linked1_spec (l : List Rec) (hlen : l.length ≤ 1000000) : ISpec Tryz.prog 144 [.ptr [encRs l]] (pairs l) := by
 refine ISpec.of_vc (fun Γ => more6 false Γ.P Γ.fx) (fun Γ => more6_ok) Tryz.func144 rfl Tryz.call144 (Nat.le_of_ble_eq_true rfl) rfl ?_
 rintro ⟨P, N, w0, X, β0, fx, y, hy, pk, df⟩ rfl rfl rfl rfl hon hxs
 dsimp only at hon hxs
 skip
 refine Wp.loop (fun k : Nat => ⟨[(0, .pure (.val (.func (.yield y.l) #[] #[]))), (3, .loc 3 0 0), (6, .pure (encRs l)), (7, .int l.length), (8, .int k), (19, .gh k false)], [(3, some (.box (pures (encR (lastR l k)))))], [3]⟩) (fun k => k ≤ l.length) (fun k => l.length - k) 0 (Le.of ?_ ?_ rfl rfl rfl) (by omega) ?_
 · (repeat' (first|exact trivial|refine aq ?_ ?_|exact oq|exact l1 bd|fail))
 · rw [lastR_zero]
   (repeat' (first|exact trivial|refine aq ?_ ?_|refine Exists.intro _ (aq rfl ?_)|exact oq|fail))
   all_goals exact zero_sub
 intro k hk
 by_cases hk2 : k < l.length
 · obtain ⟨la, hla⟩ : ∃ la, la = lastR l k := ⟨_, rfl⟩
   have hp := pairs_get hk2
   have hs := lastR_succ hk2
   rw [← hla] at hp ⊢
   refine code_sound (more := more6 false _ _) more6_ok FOK.wide _ ?_
   repeat' ((try conv => whnf); first|(first|refine k3 ?_ ?_|refine k4 ?_ ?_) <;> intro hb <;> (try rw [lM] at hb) <;> try (exfalso; omega)|refine aq rfl ?_|refine s5 nm nm ?_|refine aq bd ?_|fail)
   refine needY (i := k) hxs hp ⟨PSub.refl _, PSub.refl _, trivial⟩ ?_
   repeat' ((try conv => whnf); first|refine Both.intro ?_ ?_|refine aq rfl ?_|refine s4 nm ?_|fail)
   · refine ⟨k + 1, Le.of (by (repeat' (first|exact trivial|refine aq ?_ ?_|exact oq|fail))) ?_ rfl rfl rfl, by omega, by omega⟩
     rw [hs]
     (repeat' (first|exact trivial|refine aq ?_ ?_|refine Exists.intro _ (aq rfl ?_)|exact oq|fail))
   · exact ⟨k + 1, true, rfl, by simp⟩
 · refine code_sound (more := more6 false _ _) more6_ok FOK.wide _ ?_
   repeat' ((try conv => whnf); first|(first|refine k3 ?_ ?_|refine k4 ?_ ?_) <;> intro hb <;> (try rw [lM] at hb) <;> try (exfalso; omega)|fail)
   exact ⟨k, false, rfl, fun _ => by rw [pairs_len]; omega⟩
def boxR (r : Rec) : Option Blk := some (.box (pures (encR r)))
def cond1 (k : Nat) (r : Rec) : Bool := decide (k < 4096) && decide (r.no = k)
def cond2 (l : List Rec) (r : Rec) : Bool := decide (0 ≤ r.party) && decide (r.party < 16) && decide (r.party = firstP l)
def cond3 (r : Rec) : Bool := decide (1 ≤ r.kind) && decide (r.kind ≤ 9)
def cond4 (r q : Rec) : Bool := decide (q.day ≤ r.day) && decide (r.day < 1024)
def cond5 (r : Rec) : Bool := decide (r.body.length ≤ 65536)
def cond6 (k : Nat) (r q : Rec) : Bool := if k = 0 then decide (r.prev = z32) else decide (r.prev = recD q)
theorem c1_spec (k : Nat) (r : Rec) : GSpec Tryz.prog 120 2 ⟨numE 0 [.loc 100 0 0, .loc 101 0 0], [(100, some (.box [.int k])), (101, boxR r)], [100, 101]⟩ [100, 101] 1 ⟨[(0, .bool (cond1 k r))], [(100, some (.box [.int k])), (101, boxR r)], [100, 101]⟩ := by
 refine GSpec.of_vc (fun Γ => more6 false Γ.P Γ.fx) (fun Γ => more6_ok) Tryz.func120 rfl Tryz.call120 (by decide) ?_
 rintro ⟨P, N, w0, X, β0, fx, y, hy, pk, df⟩ rfl rfl rfl hoff rfl; change y.on = false at hoff
 repeat' ((try conv => whnf); first|(first|refine k3 ?_ ?_|refine k4 ?_ ?_) <;> intro hb <;> (try rw [lM] at hb) <;> try (exfalso; omega)|fail)
 all_goals exact Le.of (by (repeat' (first|exact trivial|refine aq ?_ ?_|fail)); all_goals exact SubA.bool (by first|(simp [cond1]; done)|(simp [cond1]; omega)|(simp [cond1]; intros; omega))) (by (repeat' (first|exact trivial|refine aq ?_ ?_|refine Exists.intro _ (aq rfl ?_)|exact oq|fail))) rfl rfl rfl
theorem c2_spec (l : List Rec) (r : Rec) (h : 0 < l.length) : GSpec Tryz.prog 121 2 ⟨numE 0 [.loc 100 0 0, .loc 101 0 0], [(100, boxR r), (101, some (.box [.pure (encRs l)]))], [100, 101]⟩ [100, 101] 1 ⟨[(0, .bool (cond2 l r))], [(100, boxR r), (101, some (.box [.pure (encRs l)]))], [100, 101]⟩ := by
 have e1 := firstP_at (l := l) h
 refine GSpec.of_vc (fun Γ => more6 false Γ.P Γ.fx) (fun Γ => more6_ok) Tryz.func121 rfl Tryz.call121 (by decide) ?_
 rintro ⟨P, N, w0, X, β0, fx, y, hy, pk, df⟩ rfl rfl rfl hoff rfl; change y.on = false at hoff
 skip
 refine Wp.draw (more := more6 true _ _) more6_det more6_ok FOK.wide rfl (by decide +kernel) (by conv => lhs; reduce) ?_
 repeat' ((try conv => whnf); first|(first|refine k3 ?_ ?_|refine k4 ?_ ?_) <;> intro hb <;> (try rw [lM] at hb) <;> try (exfalso; omega)|refine s5 nm nm ?_|fail)
 all_goals exact Le.of (by (repeat' (first|exact trivial|refine aq ?_ ?_|fail)); all_goals exact SubA.bool (by first|(simp [cond2, ← e1]; done)|(simp [cond2, ← e1]; omega)|(simp [cond2, ← e1]; intros; omega))) (by (repeat' (first|exact trivial|refine aq ?_ ?_|refine Exists.intro _ (aq rfl ?_)|exact oq|fail))) rfl rfl rfl
theorem c3_spec (r : Rec) : GSpec Tryz.prog 122 1 ⟨numE 0 [.loc 100 0 0], [(100, boxR r)], [100]⟩ [100] 1 ⟨[(0, .bool (cond3 r))], [(100, boxR r)], [100]⟩ := by
 refine GSpec.of_vc (fun Γ => more6 false Γ.P Γ.fx) (fun Γ => more6_ok) Tryz.func122 rfl Tryz.call122 (by decide) ?_
 rintro ⟨P, N, w0, X, β0, fx, y, hy, pk, df⟩ rfl rfl rfl hoff rfl; change y.on = false at hoff
 repeat' ((try conv => whnf); first|(first|refine k3 ?_ ?_|refine k4 ?_ ?_) <;> intro hb <;> (try rw [lM] at hb) <;> try (exfalso; omega)|fail)
 all_goals exact Le.of (by (repeat' (first|exact trivial|refine aq ?_ ?_|fail)); all_goals exact SubA.bool (by first|(simp [cond3]; done)|(simp [cond3]; omega)|(simp [cond3]; intros; omega))) (by (repeat' (first|exact trivial|refine aq ?_ ?_|refine Exists.intro _ (aq rfl ?_)|exact oq|fail))) rfl rfl rfl
theorem c4_spec (r q : Rec) : GSpec Tryz.prog 123 2 ⟨numE 0 [.loc 100 0 0, .loc 101 0 0], [(100, boxR r), (101, boxR q)], [100, 101]⟩ [100, 101] 1 ⟨[(0, .bool (cond4 r q))], [(100, boxR r), (101, boxR q)], [100, 101]⟩ := by
 refine GSpec.of_vc (fun Γ => more6 false Γ.P Γ.fx) (fun Γ => more6_ok) Tryz.func123 rfl Tryz.call123 (by decide) ?_
 rintro ⟨P, N, w0, X, β0, fx, y, hy, pk, df⟩ rfl rfl rfl hoff rfl; change y.on = false at hoff
 repeat' ((try conv => whnf); first|(first|refine k3 ?_ ?_|refine k4 ?_ ?_) <;> intro hb <;> (try rw [lM] at hb) <;> try (exfalso; omega)|fail)
 all_goals exact Le.of (by (repeat' (first|exact trivial|refine aq ?_ ?_|fail)); all_goals exact SubA.bool (by first|(simp [cond4]; done)|(simp [cond4]; omega)|(simp [cond4]; intros; omega))) (by (repeat' (first|exact trivial|refine aq ?_ ?_|refine Exists.intro _ (aq rfl ?_)|exact oq|fail))) rfl rfl rfl
theorem c5_spec (r : Rec) : GSpec Tryz.prog 124 1 ⟨numE 0 [.loc 100 0 0], [(100, boxR r)], [100]⟩ [100] 1 ⟨[(0, .bool (cond5 r))], [(100, boxR r)], [100]⟩ := by
 refine GSpec.of_vc (fun Γ => more6 false Γ.P Γ.fx) (fun Γ => more6_ok) Tryz.func124 rfl Tryz.call124 (by decide) ?_
 rintro ⟨P, N, w0, X, β0, fx, y, hy, pk, df⟩ rfl rfl rfl hoff rfl; change y.on = false at hoff
 skip
 all_goals exact Le.of (by (repeat' (first|exact trivial|refine aq ?_ ?_|fail)); all_goals exact SubA.bool (by first|(simp [cond5]; done)|(simp [cond5]; omega)|(simp [cond5]; intros; omega))) (by (repeat' (first|exact trivial|refine aq ?_ ?_|refine Exists.intro _ (aq rfl ?_)|exact oq|fail))) rfl rfl rfl
theorem c6_spec (k : Nat) (r q : Rec) (hr : r.prev.length = 32) (hq : q.can) : GSpec Tryz.prog 125 3 ⟨numE 0 [.loc 100 0 0, .loc 101 0 0, .loc 102 0 0], [(100, some (.box [.int k])), (101, boxR r), (102, boxR q)], [100, 101, 102]⟩ [100, 101, 102] 1 ⟨[(0, .bool (cond6 k r q))], [(100, some (.box [.int k])), (101, boxR r), (102, boxR q)], [100, 101, 102]⟩ := by
 refine GSpec.of_vc (fun Γ => more6 false Γ.P Γ.fx) (fun Γ => more6_ok) Tryz.func125 rfl Tryz.call125 (by decide) ?_
 rintro ⟨P, N, w0, X, β0, fx, y, hy, pk, df⟩ rfl rfl rfl hoff rfl; change y.on = false at hoff
 repeat' ((try conv => whnf); first|(first|refine k3 ?_ ?_|refine k4 ?_ ?_) <;> intro hb <;> (try rw [lM] at hb) <;> try (exfalso; omega)|fail)
 · refine ⟨_, digEq r.prev z32 hr rfl, isAg, isAg, ?_⟩
   skip
   all_goals exact Le.of (by (repeat' (first|exact trivial|refine aq ?_ ?_|fail)); all_goals exact SubA.bool (by first|(simp [cond6, *]; done)|(simp [cond6, *]; omega)|(simp [cond6, *]; intros; omega))) (by (repeat' (first|exact trivial|refine aq ?_ ?_|refine Exists.intro _ (aq rfl ?_)|exact oq|fail))) rfl rfl rfl
 · refine Wp.draw (more := more6 true _ _) more6_det more6_ok FOK.wide rfl (by decide +kernel) (by conv => lhs; reduce) ?_
   skip
   refine ⟨_, evDigest_spec q hq.1 hq.2, ?_⟩
   repeat' ((try conv => whnf); first|refine aq rfl ?_|fail)
   refine ⟨_, digEq r.prev (recD q) hr (recD_len q), isAg, isAp, ?_⟩
   skip
   exact Le.of (by (repeat' (first|exact trivial|refine aq ?_ ?_|fail)); all_goals exact SubA.bool (by rw [cond6, if_neg (by omega)])) (by (repeat' (first|exact trivial|refine aq ?_ ?_|refine Exists.intro _ (aq rfl ?_)|exact oq|fail))) rfl rfl rfl
end Go.Proofs.YtjfjpnefohbobaaGreatDoor
/- Evidence: invalid, Check. Conditions: none. -/
namespace Go.Proofs.YtjfjpnefohbobaaGreatDoor
open Go.Avc
inductive InvIs (l : List Rec) : Int → Prop
 | bad (k : Nat) (h : IsBad l k) : InvIs l k
 | ok (h : Valid l) : InvIs l (-1)
theorem firstP_take {l : List Rec} {k : Nat} (hk : 0 < k) (hl : 0 < l.length) : firstP (l.take k) = firstP l := by
 have h1 : 0 < (l.take k).length := by rw [List.length_take]; omega
 rw [← firstP_at h1, ← firstP_at hl, List.getElem_take]
theorem lastDay_take {l : List Rec} {k : Nat} (hk : 0 < k) (hl : k ≤ l.length) : lastDay (l.take k) = (lastR l k).day := by
 have h1 : (l.take k).length = k := by rw [List.length_take]; omega
 rw [← lastDay_at (l := l.take k) (n := k - 1) (by omega) (by omega)]
 unfold lastR
 rw [dif_pos (by omega), List.getElem_take]
theorem headOf_take {l : List Rec} {k : Nat} (hk : 0 < k) (hl : k ≤ l.length) : headOf (l.take k) = recD (lastR l k) := by
 have h1 : (l.take k).length = k := by rw [List.length_take]; omega
 rw [← headAt (l := l.take k) (n := k - 1) (by omega) (by omega)]
 unfold lastR
 rw [dif_pos (by omega), List.getElem_take]
theorem conds_iff {l : List Rec} {k : Nat} (hk : k < l.length) (hall : ∀ j (h : j < l.length), j < k → Fits (l.take j) l[j]) :
   (cond1 k l[k] = true ∧ cond2 l l[k] = true ∧ cond3 l[k] = true ∧ cond4 l[k] (lastR l k) = true ∧ cond5 l[k] = true ∧ cond6 k l[k] (lastR l k) = true) ↔ Fits (l.take k) l[k] := by
 have h1 : (l.take k).length = k := by rw [List.length_take]; omega
 simp only [cond1, cond2, cond3, cond4, cond5, Bool.and_eq_true, decide_eq_true_eq]
 by_cases e : k = 0
 · subst e
   have h2 := firstP_at (l := l) (by omega)
   have h3 : (lastR l 0).day = 0 := by rw [lastR_zero]; rfl
   have h4 : cond6 0 l[0] (lastR l 0) = decide (l[0].prev = z32) := by unfold cond6; rw [if_pos rfl]
   have h5 : headOf (l.take 0) = z32 := by unfold headOf; rw [dif_neg (by simp)]
   rw [h4, h3, decide_eq_true_eq]
   constructor
   · rintro ⟨⟨a1, a2⟩, ⟨⟨b1, b2⟩, b3⟩, ⟨c1, c2⟩, ⟨d1, d2⟩, e1, f1⟩
     exact ⟨by omega, by rw [a2, h1], ⟨b1, b2⟩, ⟨c1, c2⟩, ⟨d1, d2⟩, e1, by rw [f1, h5], .inl h1⟩
   · rintro ⟨a, b, c, d, e, f, g, h⟩
     exact ⟨⟨by omega, by rw [b, h1]⟩, ⟨c, h2⟩, d, e, f, by rw [g, h5]⟩
 · have h2 := firstP_take (l := l) (k := k) (by omega) (by omega)
   have h3 := lastDay_take (l := l) (k := k) (by omega) (by omega)
   have h4 : cond6 k l[k] (lastR l k) = decide (l[k].prev = recD (lastR l k)) := by unfold cond6; rw [if_neg e]
   have h5 := headOf_take (l := l) (k := k) (by omega) (by omega)
   have h6 : 0 ≤ (lastR l k).day := by
     have := (hall (k - 1) (by omega) (by omega)).day.1
     unfold lastR
     rw [dif_pos (by omega)]
     exact this
   rw [h4, decide_eq_true_eq]
   constructor
   · rintro ⟨⟨a1, a2⟩, ⟨⟨b1, b2⟩, b3⟩, ⟨c1, c2⟩, ⟨d1, d2⟩, e1, f1⟩
     exact ⟨by omega, by rw [a2, h1], ⟨b1, b2⟩, ⟨c1, c2⟩, ⟨by omega, d2⟩, e1, by rw [f1, h5], .inr ⟨by rw [h2, b3], by rw [h3]; exact d1⟩⟩
   · rintro ⟨a, b, c, d, e', f, g, h⟩
     rcases h with h | ⟨h, h'⟩
     · omega
     · exact ⟨⟨by omega, by rw [b, h1]⟩, ⟨c, by rw [h, h2]⟩, d, ⟨by rw [← h3]; exact h', e'.2⟩, f, by rw [g, h5]⟩
theorem zeroR_can : zeroR.can := ⟨⟨by unfold isI zeroR; decide, by unfold isI zeroR; decide, by unfold isI zeroR; decide, by unfold isI zeroR; decide, rfl⟩, by simp [zeroR]⟩
theorem lastR_can {l : List Rec} (hl : ∀ x ∈ l, x.can) (k : Nat) : (lastR l k).can := by
 unfold lastR
 split
 · exact hl _ (List.getElem_mem _)
 · exact zeroR_can
attribute [local irreducible] PSub Wp PSpec Le Need Both
attribute [local irreducible] recE recD tagged sha headOf lastR cond1 cond2 cond3 cond4 cond5 cond6
theorem invalid_spec (L : List Rec) (hl : ∀ x ∈ L, x.can) (hlen : L.length ≤ 1000000) (v : Int) (hv : InvIs L v) : PSpec Tryz.prog 98 [encRs L] (.int v) := by
 refine PSpec.of_vc (fun Γ => more6 false Γ.P Γ.fx) (fun Γ => more6_ok) Tryz.func98 rfl Tryz.call98 (by simp) ?_
 rintro ⟨P, N, w0, X, β0, fx, y, hy, pk, df⟩ rfl rfl rfl hoff rfl; change y.on = false at hoff
 repeat' ((try conv => whnf); first|refine aq rfl ?_|fail)
 refine .inl ⟨_, linked_spec L, ?_⟩
 repeat' ((try conv => whnf); first|refine aq rfl ?_|fail)
 refine Wp.rangeFunc (linked1_spec L hlen) [(1, .loc 1 0 0), (2, .loc 2 0 0), (3, .loc 3 0 0), (10, .pure (.fn 144 [.ptr [encRs L]]))]
   (fun i => [(1, some (.box [.pure (encRs L)])), (2, some (.box [.int 0])), (3, some (.box [.int (i : Nat)]))]) (fun _ => [1, 2, 3]) [1, 2, 3]
   (fun i => ∀ j (h : j < L.length), j < i → Fits (L.take j) L[j])
   (Le.of ?_ ?_ rfl rfl rfl) rfl hoff (fun j h hj => by omega) rfl rfl (fun _ => rfl) rfl (fun i row hrow => ?_) ?_ ?_
 · (repeat' (first|exact trivial|refine aq ?_ ?_|exact oq|fail))
 · (repeat' (first|exact trivial|refine aq ?_ ?_|refine Exists.intro _ (aq rfl ?_)|exact oq|fail))
 · have hi : i < L.length := by have := (List.getElem?_eq_some_iff.1 hrow).1; rwa [pairs_len] at this
   rw [pairs_get hi] at hrow
   cases hrow
   rfl
 · rintro ⟨P1, N1, w1, X1, β1, fx1, y1, hy1, pk1, df1⟩ rfl rfl rfl hoff1 rfl l k row hrow hok; change y1.on = false at hoff1
   have hk : k < L.length := by have := (List.getElem?_eq_some_iff.1 hrow).1; rwa [pairs_len] at this
   rw [pairs_get hk] at hrow
   cases hrow
   have hiff := conds_iff hk hok
   have hcan := lastR_can hl k
   have hrc := (hl _ (List.getElem_mem hk)).1.2.2.2.2
   obtain ⟨q, hq⟩ : ∃ q, q = lastR L k := ⟨_, rfl⟩
   obtain ⟨r, hr⟩ : ∃ r, r = L[k] := ⟨_, rfl⟩
   rw [← hq] at hiff hcan ⊢
   rw [← hr] at hiff hrc ⊢
   refine code_sound (more := more6 false _ _) more6_ok (FOK.inRound _) _ ?_
   repeat' ((try conv => whnf); first|refine aq rfl ?_|fail)
   rintro ⟨P2, N2, w2, X2, β2, fx2, y2, hy2, pk2, df2⟩ rfl rfl rfl hoff2 rfl; change y2.on = false at hoff2
   refine code_sound (more := more6 false _ _) more6_ok (FOK.inRound _) _ ?_
   repeat' ((try conv => whnf); first|refine aq bd ?_|fail)
   refine Wp.loop (fun i : Nat => ⟨[(2, .loc 2 0 0), (3, .loc 3 0 0), (20, .lsl 19 0 6), (21, .int 6), (22, .int i)], [(19, some (.box [.fn 120 [.loc 3 0 0, .loc 5 0 0], .fn 121 [.loc 5 0 0, .loc 1 0 0], .fn 122 [.loc 5 0 0], .fn 123 [.loc 5 0 0, .loc 4 0 0], .fn 124 [.loc 5 0 0], .fn 125 [.loc 3 0 0, .loc 5 0 0, .loc 4 0 0]])), (1, some (.box [.pure (encRs L)])), (2, some (.box [.int 0])), (3, some (.box [.int (k : Nat)])), (4, boxR q), (5, boxR r)], [19, 1, 2, 3, 4, 5]⟩)
     (fun i => i ≤ 6 ∧ (1 ≤ i → cond1 k r = true) ∧ (2 ≤ i → cond2 L r = true) ∧ (3 ≤ i → cond3 r = true) ∧ (4 ≤ i → cond4 r q = true) ∧ (5 ≤ i → cond5 r = true) ∧ (6 ≤ i → cond6 k r q = true)) (fun i => 6 - i) 0 (Le.of ?_ ?_ rfl rfl rfl) ⟨by omega, by omega, by omega, by omega, by omega, by omega, by omega⟩ ?_
   · (repeat' (first|exact trivial|refine aq ?_ ?_|exact oq|fail))
   · (repeat' (first|exact trivial|refine aq ?_ ?_|refine Exists.intro _ (aq rfl ?_)|exact oq|fail))
   rintro i ⟨hi, g1, g2, g3, g4, g5, g6⟩
   have hcs : i = 0 ∨ i = 1 ∨ i = 2 ∨ i = 3 ∨ i = 4 ∨ i = 5 ∨ i = 6 := by omega
   have q1 := c1_spec k r
   have q2 := c2_spec L r (by omega)
   have q3 := c3_spec r
   have q4 := c4_spec r q
   have q5 := c5_spec r
   have q6 := c6_spec k r q hrc hcan
   obtain ⟨b1, e1⟩ : ∃ b, b = cond1 k r := ⟨_, rfl⟩
   obtain ⟨b2, e2⟩ : ∃ b, b = cond2 L r := ⟨_, rfl⟩
   obtain ⟨b3, e3⟩ : ∃ b, b = cond3 r := ⟨_, rfl⟩
   obtain ⟨b4, e4⟩ : ∃ b, b = cond4 r q := ⟨_, rfl⟩
   obtain ⟨b5, e5⟩ : ∃ b, b = cond5 r := ⟨_, rfl⟩
   obtain ⟨b6, e6⟩ : ∃ b, b = cond6 k r q := ⟨_, rfl⟩
   simp only [← e1, ← e2, ← e3, ← e4, ← e5, ← e6] at hiff g1 g2 g3 g4 g5 g6 q1 q2 q3 q4 q5 q6 ⊢
   have fail : ¬ (b1 = true ∧ b2 = true ∧ b3 = true ∧ b4 = true ∧ b5 = true ∧ b6 = true) → PSub (.val (.int .i64 (k : Int))) (.int v) := fun hn => by
     have hbad : IsBad L k := ⟨hk, hok, fun h => hn (hiff.2 (by rw [hr] at *; exact h))⟩
     cases hv with
     | bad j hj => rw [hj.uniq hbad]; exact PSub.refl _
     | ok h => exact absurd h hbad.not_valid
   rcases hcs with rfl | rfl | rfl | rfl | rfl | rfl | rfl
   · refine code_sound (more := more6 false _ _) more6_ok (FOK.inRound _) _ ?_
     repeat' ((try conv => whnf); first|refine aq rfl ?_|refine aq bd ?_|fail)
     refine .inr ⟨[(100, 3), (101, 5)], [.loc 100 0 0, .loc 101 0 0], [(100, some (.box [.int k])), (101, boxR r)], [100, 101], [100, 101], 1, _, q1, ⟨Or.inl rfl, Or.inl rfl, trivial⟩, ⟨rfl, rfl, trivial⟩, ?_⟩
     repeat' ((try conv => whnf); first|refine k5 (fun hb => ?_) fun hb => ?_|refine aq rfl ?_|refine s4 nm ?_|fail)
     · exact ⟨1, Le.of (by (repeat' (first|exact trivial|refine aq ?_ ?_|exact oq|fail))) (by (repeat' (first|exact trivial|refine aq ?_ ?_|refine Exists.intro _ (aq rfl ?_)|exact oq|fail))) rfl rfl rfl, ⟨by omega, by simp_all, by simp_all, by simp_all, by simp_all, by simp_all, by simp_all⟩, by omega⟩
     · exact fail (by simp_all)
   · refine code_sound (more := more6 false _ _) more6_ok (FOK.inRound _) _ ?_
     repeat' ((try conv => whnf); first|refine aq rfl ?_|refine aq bd ?_|fail)
     refine .inr ⟨[(100, 5), (101, 1)], [.loc 100 0 0, .loc 101 0 0], [(100, boxR r), (101, some (.box [.pure (encRs L)]))], [100, 101], [100, 101], 1, _, q2, ⟨Or.inl rfl, Or.inl rfl, trivial⟩, ⟨rfl, rfl, trivial⟩, ?_⟩
     repeat' ((try conv => whnf); first|refine k5 (fun hb => ?_) fun hb => ?_|refine aq rfl ?_|refine s4 nm ?_|fail)
     · exact ⟨2, Le.of (by (repeat' (first|exact trivial|refine aq ?_ ?_|exact oq|fail))) (by (repeat' (first|exact trivial|refine aq ?_ ?_|refine Exists.intro _ (aq rfl ?_)|exact oq|fail))) rfl rfl rfl, ⟨by omega, by simp_all, by simp_all, by simp_all, by simp_all, by simp_all, by simp_all⟩, by omega⟩
     · exact fail (by simp_all)
   · refine code_sound (more := more6 false _ _) more6_ok (FOK.inRound _) _ ?_
     repeat' ((try conv => whnf); first|refine aq rfl ?_|refine aq bd ?_|fail)
     refine .inr ⟨[(100, 5)], [.loc 100 0 0], [(100, boxR r)], [100], [100], 1, _, q3, ⟨Or.inl rfl, trivial⟩, ⟨rfl, trivial⟩, ?_⟩
     repeat' ((try conv => whnf); first|refine k5 (fun hb => ?_) fun hb => ?_|refine aq rfl ?_|refine s4 nm ?_|fail)
     · exact ⟨3, Le.of (by (repeat' (first|exact trivial|refine aq ?_ ?_|exact oq|fail))) (by (repeat' (first|exact trivial|refine aq ?_ ?_|refine Exists.intro _ (aq rfl ?_)|exact oq|fail))) rfl rfl rfl, ⟨by omega, by simp_all, by simp_all, by simp_all, by simp_all, by simp_all, by simp_all⟩, by omega⟩
     · exact fail (by simp_all)
   · refine code_sound (more := more6 false _ _) more6_ok (FOK.inRound _) _ ?_
     repeat' ((try conv => whnf); first|refine aq rfl ?_|refine aq bd ?_|fail)
     refine .inr ⟨[(100, 5), (101, 4)], [.loc 100 0 0, .loc 101 0 0], [(100, boxR r), (101, boxR q)], [100, 101], [100, 101], 1, _, q4, ⟨Or.inl rfl, Or.inl rfl, trivial⟩, ⟨rfl, rfl, trivial⟩, ?_⟩
     repeat' ((try conv => whnf); first|refine k5 (fun hb => ?_) fun hb => ?_|refine aq rfl ?_|refine s4 nm ?_|fail)
     · exact ⟨4, Le.of (by (repeat' (first|exact trivial|refine aq ?_ ?_|exact oq|fail))) (by (repeat' (first|exact trivial|refine aq ?_ ?_|refine Exists.intro _ (aq rfl ?_)|exact oq|fail))) rfl rfl rfl, ⟨by omega, by simp_all, by simp_all, by simp_all, by simp_all, by simp_all, by simp_all⟩, by omega⟩
     · exact fail (by simp_all)
   · refine code_sound (more := more6 false _ _) more6_ok (FOK.inRound _) _ ?_
     repeat' ((try conv => whnf); first|refine aq rfl ?_|refine aq bd ?_|fail)
     refine .inr ⟨[(100, 5)], [.loc 100 0 0], [(100, boxR r)], [100], [100], 1, _, q5, ⟨Or.inl rfl, trivial⟩, ⟨rfl, trivial⟩, ?_⟩
     repeat' ((try conv => whnf); first|refine k5 (fun hb => ?_) fun hb => ?_|refine aq rfl ?_|refine s4 nm ?_|fail)
     · exact ⟨5, Le.of (by (repeat' (first|exact trivial|refine aq ?_ ?_|exact oq|fail))) (by (repeat' (first|exact trivial|refine aq ?_ ?_|refine Exists.intro _ (aq rfl ?_)|exact oq|fail))) rfl rfl rfl, ⟨by omega, by simp_all, by simp_all, by simp_all, by simp_all, by simp_all, by simp_all⟩, by omega⟩
     · exact fail (by simp_all)
   · refine code_sound (more := more6 false _ _) more6_ok (FOK.inRound _) _ ?_
     repeat' ((try conv => whnf); first|refine aq rfl ?_|refine aq bd ?_|fail)
     refine .inr ⟨[(100, 3), (101, 5), (102, 4)], [.loc 100 0 0, .loc 101 0 0, .loc 102 0 0], [(100, some (.box [.int k])), (101, boxR r), (102, boxR q)], [100, 101, 102], [100, 101, 102], 1, _, q6, ⟨Or.inl rfl, Or.inl rfl, Or.inl rfl, trivial⟩, ⟨rfl, rfl, rfl, trivial⟩, ?_⟩
     repeat' ((try conv => whnf); first|refine k5 (fun hb => ?_) fun hb => ?_|refine aq rfl ?_|refine s4 nm ?_|fail)
     · exact ⟨6, Le.of (by (repeat' (first|exact trivial|refine aq ?_ ?_|exact oq|fail))) (by (repeat' (first|exact trivial|refine aq ?_ ?_|refine Exists.intro _ (aq rfl ?_)|exact oq|fail))) rfl rfl rfl, ⟨by omega, by simp_all, by simp_all, by simp_all, by simp_all, by simp_all, by simp_all⟩, by omega⟩
     · exact fail (by simp_all)
   · refine code_sound (more := more6 false _ _) more6_ok (FOK.inRound _) _ ?_
     repeat' ((try conv => whnf); first|refine Both.intro ?_ ?_|refine aq rfl ?_|refine s4 nm ?_|fail)
     · exact Le.of trivial (by (repeat' (first|exact trivial|refine aq ?_ ?_|refine Exists.intro _ (aq rfl ?_)|exact oq|fail))) rfl rfl rfl
     · intro j h hj
       by_cases e : j = k
       · subst e
         rw [hr] at hiff
         exact hiff.1 ⟨g1 (by omega), g2 (by omega), g3 (by omega), g4 (by omega), g5 (by omega), g6 (by omega)⟩
       · exact hok j h (by omega)
 · intro hdone
   rw [pairs_len] at hdone
   repeat' ((try conv => whnf); first|refine aq rfl ?_|fail)
   cases hv with
   | bad j hj => exact absurd (hdone j hj.lt hj.lt) hj.bad
   | ok h => exact PSub.refl _
theorem inv_ex (l : List Rec) : ∃ v, InvIs l v ∧ ((Valid l ∧ v = -1) ∨ (¬ Valid l ∧ 0 ≤ v)) := by
 rcases valid_or l with h | ⟨k, h⟩
 · exact ⟨_, .ok h, .inl ⟨h, rfl⟩⟩
 · exact ⟨_, .bad k h, .inr ⟨h.not_valid, by omega⟩⟩
theorem evCheck_spec (l : List Rec) (hl : ∀ x ∈ l, x.can) (hlen : l.length ≤ 1000000) : PSpec Tryz.prog 58 [encRs l] (.int (errV (validB l))) := by
 obtain ⟨v, hv, hc⟩ := inv_ex l
 have q := invalid_spec l hl hlen v hv
 refine PSpec.of_vc (fun Γ => more6 false Γ.P Γ.fx) (fun Γ => more6_ok) Tryz.func58 rfl Tryz.call58 (by simp) ?_
 rintro ⟨P, N, w0, X, β0, fx, y, hy, pk, df⟩ rfl rfl rfl hoff rfl; change y.on = false at hoff
 skip
 refine .inl ⟨_, q, ?_⟩
 repeat' ((try conv => whnf); first|(first|refine k3 ?_ ?_|refine k4 ?_ ?_) <;> intro hb <;> (try rw [lM] at hb) <;> try (exfalso; omega)|fail)
 · refine PSub.val_int ?_
   rw [validB_false (fun h => by rcases hc with ⟨_, e⟩ | ⟨e, _⟩; omega; exact e h)]
   rfl
 · refine PSub.val_int ?_
   rw [validB_true (by rcases hc with ⟨e, _⟩ | ⟨_, e⟩; exact e; omega)]
   rfl
end Go.Proofs.YtjfjpnefohbobaaGreatDoor
/- Evidence: Broken, Add. Conditions: none. -/
namespace Go.Proofs.YtjfjpnefohbobaaGreatDoor
open Go.Avc
attribute [local irreducible] PSub Wp PSpec Le Need Both
attribute [local irreducible] recE recD tagged sha headOf
theorem cloneBytes_spec (b : List UInt8) (h : b.length ≤ 1000000) : PSpec Tryz.prog 59 [encB b] (encB b) := by
 refine PSpec.of_vc (fun Γ => more6 false Γ.P Γ.fx) (fun Γ => more6_ok) Tryz.func59 rfl Tryz.call59 (by simp) ?_
 rintro ⟨P, N, w0, X, β0, fx, y, hy, pk, df⟩ rfl rfl rfl hoff rfl; change y.on = false at hoff
 skip
 intro r hr
 repeat' ((try conv => whnf); first|refine k6 (fun hb => ?_) fun hb => ?_|refine aq rfl ?_|refine aq bd ?_|fail)
 · have e : b = [] := List.map_eq_nil_iff.1 (hr hb)
   subst e
   exact PSub.nil 1
 exact sub_sl (by simp [List.take_of_length_le])
theorem cloneRecs_own (l : List Rec) (h : l.length ≤ 10000) : GSpec Tryz.prog 61 1 ⟨numE 0 [.pure (encRs l)], [], []⟩ [] 1 ⟨[(0, .lsl 7 0 l.length)], [(7, some (.row 37 (l.map encR)))], [7]⟩ := by
 refine GSpec.of_vc (fun Γ => more6 false Γ.P Γ.fx) (fun Γ => more6_ok) Tryz.func61 rfl Tryz.call61 (by decide) ?_
 rintro ⟨P, N, w0, X, β0, fx, y, hy, pk, df⟩ rfl rfl rfl hoff rfl; change y.on = false at hoff
 skip
 intro r hr
 repeat' ((try conv => whnf); first|refine k6 (fun hb => ?_) fun hb => ?_|refine aq rfl ?_|refine aq bd ?_|fail)
 · have e : l = [] := List.map_eq_nil_iff.1 (hr hb)
   subst e
   exact Le.trans (Le.virt (k := 7) (sz := 37) rfl rfl (by omega)) (Le.of ⟨Or.inr (Or.inr (Or.inr ⟨7, rfl, rfl, rfl⟩)), trivial⟩ ⟨rfl, trivial⟩ rfl rfl rfl)
 · exact Le.of ⟨SubA.lsl (by simp), trivial⟩ ⟨rfl, trivial⟩ rfl rfl rfl
theorem first_ex (l : List Rec) (r : Rec) : ∃ fr, (l.map encR ++ [encR r])[0]? = some (encR fr) ∧ (l.length = 0 → fr = r) ∧ (0 < l.length → fr.party = firstP l) := by
 cases l with
 | nil => exact ⟨r, rfl, fun _ => rfl, fun h => absurd h (by simp)⟩
 | cons a l => exact ⟨a, rfl, fun h => absurd h (by simp), fun h => firstP_at h⟩
theorem mkR_fits {l : List Rec} {party kind day : Int} {body : List UInt8} (hv : Valid l) (hn : l.length ≠ 4096) : Fits l (mkR l party kind day body) ↔ (0 ≤ party ∧ party < 16) ∧ (1 ≤ kind ∧ kind ≤ 9) ∧ (0 ≤ day ∧ day < 1024) ∧ body.length ≤ 65536 ∧ (l.length = 0 ∨ (party = firstP l ∧ lastDay l ≤ day)) := by
 have hm : l.length < 4096 := by
   by_cases h : 4096 < l.length
   · have := (hv 4096 h).many; rw [List.length_take] at this; omega
   · omega
 exact ⟨fun h => ⟨h.party, h.kind, h.day, h.body, h.same⟩, fun ⟨a, b, c, d, e⟩ => ⟨hm, rfl, a, b, c, d, rfl, e⟩⟩
theorem evAdd_spec (l : List Rec) (party kind day : Int) (body : List UInt8) (hl : ∀ x ∈ l, x.can) (hll : l.length ≤ 10000) (hb0 : body.length ≤ 800000) : PSpec Tryz.prog 22 [encRs l, .int party, .int kind, .int day, encB body] (encRE (addR l (mkR l party kind day body))) := by
 have qc := evCheck_spec l hl (by omega)
 have qh := evHead_spec l hl
 obtain ⟨fr, hfr, hf1, hf2⟩ := first_ex l (mkR l party kind day body)
 have hfp : (l.length = 0 ∧ fr.party = party) ∨ (0 < l.length ∧ fr.party = firstP l) := by
   by_cases h : l.length = 0
   · exact .inl ⟨h, by rw [hf1 h]; rfl⟩
   · exact .inr ⟨by omega, hf2 (by omega)⟩
 rw [mkR_alt] at hfr
 by_cases hv : Valid l
 · rw [validB_true hv] at qc
   refine PSpec.of_vc (fun Γ => more6 false Γ.P Γ.fx) (fun Γ => more6_ok) Tryz.func22 rfl Tryz.call22 (by simp) ?_
   rintro ⟨P, N, w0, X, β0, fx, y, hy, pk, df⟩ rfl rfl rfl hoff rfl; change y.on = false at hoff
   skip
   refine .inl ⟨_, qc, ?_⟩
   repeat' ((try conv => whnf); first|(first|refine k3 ?_ ?_|refine k4 ?_ ?_) <;> intro hb <;> (try rw [lM] at hb) <;> try (exfalso; omega)|fail)
   · exact sub_addE (addR_full hv (by omega))
   · refine .inl ⟨_, cloneBytes_spec body (by omega), ?_⟩
     repeat' ((try conv => whnf); first|refine aq rfl ?_|fail)
     refine .inl ⟨_, qh, ?_⟩
     repeat' ((try conv => whnf); first|refine aq rfl ?_|fail)
     refine Wp.drawG (more := more6 true _ _) more6_det more6_ok FOK.wide rfl (by decide +kernel) (by conv => lhs; reduce) ?_
     skip
     refine .inr ⟨[(7, 34)], [.pure (encRs l)], [], [], [], 1, _, cloneRecs_own l hll, ⟨Or.inl rfl, trivial⟩, trivial, ?_⟩
     repeat' ((try conv => whnf); first|(first|refine k3 ?_ ?_|refine k4 ?_ ?_) <;> intro hb <;> (try rw [lM] at hb) <;> try (exfalso; omega)|refine aq bd ?_|fail)
     · refine ⟨encR fr, .int fr.party, hfr, rfl, ?_⟩
       repeat' ((try conv => whnf); first|(first|refine k3 ?_ ?_|refine k4 ?_ ?_) <;> intro hb <;> (try rw [lM] at hb) <;> try (exfalso; omega)|refine s4 nm ?_|refine s6 nm nm ?_|fail)
       · have e2 := lastDay_at (l := l) (n := (((l.map encR).length : Int) - 1).toNat) (by rw [List.length_map]; omega) (by rw [List.length_map]; omega)
         exact sub_addE (addR_no hv (by omega) (fun hf => by have h1 := (mkR_fits hv (by omega)).1 hf; omega))
       · have e2 := lastDay_at (l := l) (n := (((l.map encR).length : Int) - 1).toNat) (by rw [List.length_map]; omega) (by rw [List.length_map]; omega)
         rw [addR_yes hv (by omega) ((mkR_fits hv (by omega)).2 ⟨by omega, by omega, by omega, by omega, by omega⟩), mkR_alt]
         refine PSub.tup ⟨sub_sl ?_, PSub.refl _, trivial⟩
         rw [List.drop_zero, List.take_of_length_le (by simp), List.map_append]
         rfl
       · rw [addR_yes hv (by omega) ((mkR_fits hv (by omega)).2 ⟨by omega, by omega, by omega, by omega, by omega⟩), mkR_alt]
         refine PSub.tup ⟨sub_sl ?_, PSub.refl _, trivial⟩
         rw [List.drop_zero, List.take_of_length_le (by simp), List.map_append]
         rfl
       all_goals exact sub_addE (addR_no hv (by omega) (fun hf => by have h1 := (mkR_fits hv (by omega)).1 hf; omega))
     all_goals exact sub_addE (addR_no hv (by omega) (fun hf => by have h1 := (mkR_fits hv (by omega)).1 hf; omega))
 · rw [validB_false hv] at qc
   refine PSpec.of_vc (fun Γ => more6 false Γ.P Γ.fx) (fun Γ => more6_ok) Tryz.func22 rfl Tryz.call22 (by simp) ?_
   rintro ⟨P, N, w0, X, β0, fx, y, hy, pk, df⟩ rfl rfl rfl hoff rfl; change y.on = false at hoff
   skip
   refine .inl ⟨_, qc, ?_⟩
   skip
   exact sub_addE (addR_bad hv)
end Go.Proofs.YtjfjpnefohbobaaGreatDoor
