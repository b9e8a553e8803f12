/- Journals: the reference's SameRecords, Same, Sectors, Used, Check, Room, Append. Conditions: none. -/
import Derived.Test.YtcgpikmaapallaaWd
import Derived.Test.YtcgpikmaapallaaWi
import Derived.Test.YtcgpikmaapallaaWf
set_option linter.unusedSimpArgs false
set_option linter.unusedVariables false
set_option maxRecDepth 20000
set_option maxHeartbeats 4000000
namespace Go.Proofs.Ytcgpikmaapallaa
open Go.Avc
attribute [local irreducible] PSub Wp PSpec Le Need Both
theorem sameRecords_spec (a b : List (List UInt8)) (h : a.length ≤ 140737488355328) : PSpec Try.prog 24 [encS a, encS b] (.bool (a == b)) := by
 refine PSpec.of_vc (fun Γ => more2 false Γ.P Γ.fx) (fun Γ => more2_ok) Try.func24 rfl Try.call24 (by simp) ?_
 rintro ⟨P, N, w0, X, β0, fx, y, hy, pk, df⟩ rfl rfl rfl hoff rfl; change y.on = false at hoff
 repeat' ((try conv => whnf); first|(first|refine k3 ?_ ?_|refine k4 ?_ ?_) <;> intro hb <;> (try rw [lM] at hb) <;> try (exfalso; omega)|fail)
 rotate_left
 · refine PSub.val_bool (Bool.eq_false_iff.2 ?_).symm
   intro h; have := eq_of_beq h; subst this; exact hb (by rw [List.length_map])
 refine Wp.loop (fun k : Nat => ⟨[(0, .pure (encS a)), (1, .pure (encS b)), (5, .int k)], [], []⟩) (fun k => k ≤ a.length ∧ a.take k = b.take k) (fun k => a.length - k) 0 (Le.of ?_ ?_ rfl rfl rfl) ⟨by omega, by simp⟩ ?_
 · (repeat' (first|exact trivial|refine aq ?_ ?_|exact oq|fail))
 · (repeat' (first|exact trivial|fail))
 rintro k ⟨hk, hs⟩
 have hab : a.length = b.length := by rw [List.length_map] at hb; omega
 by_cases hk2 : k < a.length
 · refine code_sound (more := more2 false _ _) more2_ok FOK.wide _ ?_
   repeat' ((try conv => whnf); first|(first|refine k3 ?_ ?_|refine k4 ?_ ?_) <;> intro hb <;> (try rw [lM] at hb) <;> try (exfalso; omega)|fail)
   refine Wp.draw (more := more2 true _ _) more2_det more2_ok FOK.wide rfl (by decide +kernel) (by conv => lhs; reduce) ?_
   repeat' ((try conv => whnf); first|(first|refine k3 ?_ ?_|refine k4 ?_ ?_) <;> intro hb <;> (try rw [lM] at hb) <;> try (exfalso; omega)|refine s4 nm ?_|refine s5 nm nm ?_|refine s7 ?_|fail)
   · have hkk : a[k] = b[k]'(by omega) := by have := ofArr hb; simpa using this
     exact ⟨k + 1, Le.of (by (repeat' (first|exact trivial|refine aq ?_ ?_|exact oq|fail))) (by (repeat' (first|exact trivial|fail))) rfl rfl rfl, ⟨by omega, by rw [List.take_succ_eq_append_getElem hk2, List.take_succ_eq_append_getElem (show k < b.length by omega), hs, hkk]⟩, by omega⟩
   · refine PSub.val_bool (Bool.eq_false_iff.2 ?_).symm
     intro h; have := eq_of_beq h; subst this; exact hb rfl
 · have ek : k = a.length := by omega
   subst ek
   refine code_sound (more := more2 false _ _) more2_ok FOK.wide _ ?_
   repeat' ((try conv => whnf); first|(first|refine k3 ?_ ?_|refine k4 ?_ ?_) <;> intro hb <;> (try rw [lM] at hb) <;> try (exfalso; omega)|fail)
   refine PSub.val_bool ?_
   rw [List.take_length, hab, List.take_length] at hs
   rw [hs]; simp
theorem sectors_spec (n : Nat) (h : n ≤ 140737488355328) : PSpec Try.prog 40 [.int n] (.int (piecesN n)) := by
 refine PSpec.of_vc (fun Γ => more2 false Γ.P Γ.fx) (fun Γ => more2_ok) Try.func40 rfl Try.call40 (by simp) ?_
 rintro ⟨P, N, w0, X, β0, fx, y, hy, pk, df⟩ rfl rfl rfl hoff rfl; change y.on = false at hoff
 repeat' ((try conv => whnf); first|refine s4 nm ?_|refine aq bd ?_|fail)
 refine ⟨(((n + 111) / 112 : Nat) : Int), ?_, ?_⟩
 · rw [Int.tdiv_eq_ediv_of_nonneg (by omega), IntKind.wrap_i64]; omega
 skip
 exact PSub.of_eq (by unfold piecesN; rw [show (max 1 (((n + 111) / 112 : Nat) : Int)) = ((max ((n + 111) / 112) 1 : Nat) : Int) by omega])
end Go.Proofs.Ytcgpikmaapallaa
/- Journals: the reference's Room, Append, Same. Conditions: none. -/
namespace Go.Proofs.Ytcgpikmaapallaa
open Go.Avc
attribute [local irreducible] PSub Wp PSpec Le Need Both
def Jour.same (a b : Jour) : Bool := decide (a.many = b.many) && decide (a.synced = b.synced) && (a.records == b.records)
theorem jsame_spec (a b : Jour) (h : a.records.length ≤ 140737488355328) : PSpec Try.prog 14 [encJ a, encJ b] (.bool (a.same b)) := by
 have q := sameRecords_spec a.records b.records h
 obtain ⟨E, hE⟩ : ∃ E, E = (a.records == b.records) := ⟨_, rfl⟩
 rw [← hE] at q
 have hs : a.same b = (decide (a.many = b.many) && decide (a.synced = b.synced) && E) := by rw [hE]; rfl
 rw [hs]
 refine PSpec.of_vc (fun Γ => more2 false Γ.P Γ.fx) (fun Γ => more2_ok) Try.func14 rfl Try.call14 (by simp) ?_
 rintro ⟨P, N, w0, X, β0, fx, y, hy, pk, df⟩ rfl rfl rfl hoff rfl; change y.on = false at hoff
 repeat' ((try conv => whnf); first|(first|refine k3 ?_ ?_|refine k4 ?_ ?_) <;> intro hb <;> (try rw [lM] at hb) <;> try (exfalso; omega)|fail)
 · refine .inl ⟨_, q, ?_⟩
   skip
   exact PSub.val_bool (by simp_all)
 · exact PSub.val_bool (by simp_all)
 · exact PSub.val_bool (by simp_all)
end Go.Proofs.Ytcgpikmaapallaa
/- Journals: the chapter's examples; few. Conditions: none. -/
namespace Go.Proofs.Ytcgpikmaapallaa
open Go.Avc
def yD : Disk := ⟨[zeroS], [], -1, false⟩
def yL : Jour := ⟨[], 1, 0⟩
def yX : Jour := ⟨[[97, 98]], 1, 0⟩
theorem y1 : newD 1 = (yD, 0) := by decide +kernel
theorem y2 : openJ yD = (yL, 0) := by decide +kernel
theorem y3 : yL.append (List.replicate 113 0) = (zeroJ, 2) := by decide +kernel
theorem y4 : yL.append [97, 98] = (yX, 0) := by decide +kernel
theorem y5 : (yX.sync yD).1.synced = 1 ∧ (yX.sync yD).2.2 = 0 := by decide +kernel
theorem y6 : openJ (yX.sync yD).2.1 = (⟨[[97, 98]], 1, 1⟩, 0) := by decide +kernel
theorem y7 : (yX.sync (yX.sync yD).2.1).2.2 = 480 := by decide +kernel
theorem y8 : yL.room = 112 := by decide +kernel
theorem y9 : zeroJ.check = 1 := by decide +kernel
attribute [local irreducible] PSub Wp PSpec Le Need Both
theorem jfew_spec (d : Disk) (l : List (List UInt8)) (h : lensN l ≤ 4000000) : PSpec Try.prog 11 [encD d, encS l] (.bool (decide (d.sectors.length ≤ 40) && decide (d.pending.length ≤ 40) && decide (lensN l ≤ 4000))) := by
 have hlen := lensN_len l
 obtain ⟨m, hm⟩ : ∃ m, m = lensN l := ⟨_, rfl⟩
 refine PSpec.of_vc (fun Γ => more2 false Γ.P Γ.fx) (fun Γ => more2_ok) Try.func11 rfl Try.call11 (by simp) ?_
 rintro ⟨P, N, w0, X, β0, fx, y, hy, pk, df⟩ rfl rfl rfl hoff rfl; change y.on = false at hoff
 skip
 refine Wp.loop (fun k : Nat => ⟨[(2, .loc 2 0 0), (5, .int (lensN (l.take k))), (8, .pure (encS l)), (9, .int l.length), (10, .int k)], [(2, some (.box [.pure (encS d.sectors), .pure (encWs d.pending), .int d.left, .bool d.stopped]))], [2]⟩) (fun k => k ≤ l.length) (fun k => l.length - k) 0 (Le.of ?_ ?_ rfl rfl rfl) (by omega) ?_
 · (repeat' (first|exact trivial|refine aq ?_ ?_|exact oq|exact l1 bd|fail))
 · (repeat' (first|exact trivial|refine aq ?_ ?_|refine Exists.intro _ (aq rfl ?_)|exact oq|fail))
 intro k hk
 have ho := lensN_take l k
 by_cases hk2 : k < l.length
 · have hb := lensN_mem (List.getElem_mem hk2)
   have hn : lensN (l.take (k + 1)) = lensN (l.take k) + (l[k].length + 1) := by
     unfold lensN; rw [List.take_succ_eq_append_getElem hk2, List.map_append, List.sum_append]; simp
   refine code_sound (more := more2 false _ _) more2_ok FOK.wide _ ?_
   repeat' ((try conv => whnf); first|(first|refine k3 ?_ ?_|refine k4 ?_ ?_) <;> intro hb <;> (try rw [lM] at hb) <;> try (exfalso; omega)|refine s4 nm ?_|refine s5 nm nm ?_|fail)
   refine ⟨k + 1, Le.of ?_ (by (repeat' (first|exact trivial|refine aq ?_ ?_|refine Exists.intro _ (aq rfl ?_)|exact oq|fail))) rfl rfl rfl, by omega, by omega⟩
   (repeat' (first|exact trivial|refine aq ?_ ?_|exact oq|exact l1 bd|fail))
   all_goals (refine SubA.int ?_; rw [hn]; simp; omega)
 · have ek : k = l.length := by omega
   subst ek
   rw [List.take_length, ← hm]
   refine code_sound (more := more2 false _ _) more2_ok FOK.wide _ ?_
   repeat' ((try conv => whnf); first|(first|refine k3 ?_ ?_|refine k4 ?_ ?_) <;> intro hb <;> (try rw [lM] at hb) <;> try (exfalso; omega)|fail)
   all_goals (refine PSub.val_bool (Bool.eq_iff_iff.2 ?_); simp only [Bool.and_eq_true, decide_eq_true_eq, Bool.false_eq_true, false_iff]; omega)
theorem jsane_spec : PSpec Try.prog 10 [] (.bool true) := by
 have sp1 := new_spec 1
 have sp2 := open_spec yD
 have sp3 := append_spec yL (List.replicate 113 0) (by simp [lensN, yL]) (by simp)
 have sp4 := append_spec yL [97, 98] (by simp [lensN, yL]) (by simp)
 have sp5 := jsync_spec yX yD (by simp [lensN, yX])
 have sp6 := open_spec (yX.sync yD).2.1
 have sp7 := jsync_spec yX (yX.sync yD).2.1 (by simp [lensN, yX])
 have sp8 := room_spec yL (by simp [lensN, yL])
 have sp9 := jcheck_spec zeroJ (by simp [lensN, zeroJ])
 have e5 := y5
 have e7 := y7
 rw [y1] at sp1
 rw [y2] at sp2
 rw [y3] at sp3
 rw [y4] at sp4
 rw [y6] at sp6
 rw [y8] at sp8
 rw [y9] at sp9
 obtain ⟨r, hr⟩ : ∃ r, r = yX.sync yD := ⟨_, rfl⟩
 rw [← hr] at sp5 sp6 sp7 e5 e7
 obtain ⟨q, hq⟩ : ∃ q, q = yX.sync r.2.1 := ⟨_, rfl⟩
 rw [← hq] at sp7 e7
 obtain ⟨⟨r1, r2, r3⟩, rd, re⟩ := r
 obtain ⟨q1, q2, qe⟩ := q
 obtain ⟨rfl, rfl⟩ := e5
 obtain rfl := e7
 clear hr hq
 refine PSpec.of_vc (fun Γ => more3 false Γ.P Γ.fx) (fun Γ => more3_ok) Try.func10 rfl Try.call10 (by simp) ?_
 rintro ⟨P, N, w0, X, β0, fx, y, hy, pk, df⟩ rfl rfl rfl hoff rfl; change y.on = false at hoff
 skip
 refine .inl ⟨_, sp1, ?_⟩
 repeat' ((try conv => whnf); first|refine aq rfl ?_|fail)
 refine .inl ⟨_, sp2, ?_⟩
 repeat' ((try conv => whnf); first|refine aq rfl ?_|fail)
 refine Wp.draw (more := more3 true _ _) more3_det more3_ok FOK.wide rfl (by decide +kernel) (by conv => lhs; reduce) ?_
 repeat' ((try conv => whnf); first|refine aq bd ?_|fail)
 refine ⟨_, sp3.args ⟨PSub.refl _, PSub.of_eq rfl, trivial⟩, ?_⟩
 repeat' ((try conv => whnf); first|refine aq rfl ?_|refine aq bd ?_|fail)
 refine .inl ⟨_, sp4, ?_⟩
 repeat' ((try conv => whnf); first|refine aq rfl ?_|fail)
 refine .inl ⟨_, sp5, ?_⟩
 repeat' ((try conv => whnf); first|refine aq rfl ?_|fail)
 refine .inl ⟨_, sp6, ?_⟩
 repeat' ((try conv => whnf); first|refine aq rfl ?_|fail)
 refine .inl ⟨_, sp7, ?_⟩
 repeat' ((try conv => whnf); first|refine aq rfl ?_|fail)
 refine .inl ⟨_, sp8, ?_⟩
 repeat' ((try conv => whnf); first|refine s5 nm nm ?_|refine s7 ?_|fail)
 refine .inl ⟨_, sp9.args ⟨PSub.agg ⟨PSub.nil 1, PSub.refl _, PSub.refl _, trivial⟩, trivial⟩, ?_⟩
 skip
 exact PSub.val_bool (by simp)
end Go.Proofs.Ytcgpikmaapallaa
/- Journals: the laws of Append and Room are walked. Conditions: none. -/
namespace Go.Proofs.Ytcgpikmaapallaa
open Go.Avc
theorem Jour.same_self (a : Jour) : a.same a = true := by simp [Jour.same]
attribute [local irreducible] PSub Wp PSpec Le Need Both
end Go.Proofs.Ytcgpikmaapallaa
/- Journals: few, whatever the sizes. Conditions: none. -/
namespace Go.Proofs.Ytcgpikmaapallaa
open Go.Avc
def lensW (l : List (List UInt8)) : Nat → Int
 | 0 => 0
 | k + 1 => IntKind.i64.wrap (lensW l k + (1 + ((l.getD k []).length : Int)))
structure RecSz (l : List (List UInt8)) : Prop where
 h24 : l.length * 24 ≤ 140737488351232
 hb : ∀ b ∈ l, b.length ≤ 140737488355328
def fewW (d : Disk) (l : List (List UInt8)) : Bool := decide (d.sectors.length ≤ 40) && decide (d.pending.length ≤ 40) && decide (lensW l l.length ≤ 4000)
attribute [local irreducible] PSub Wp PSpec Le Need Both
theorem jfew_any (d : Disk) (l : List (List UInt8)) (h : RecSz l) : PSpec Try.prog 11 [encD d, encS l] (.bool (fewW d l)) := by
 obtain ⟨h24, hb⟩ := h
 have hlen : l.length ≤ 140737488355328 := by omega
 unfold fewW
 obtain ⟨m, hm⟩ : ∃ m, m = lensW l l.length := ⟨_, rfl⟩
 refine PSpec.of_vc (fun Γ => more2 false Γ.P Γ.fx) (fun Γ => more2_ok) Try.func11 rfl Try.call11 (by simp) ?_
 rintro ⟨P, N, w0, X, β0, fx, y, hy, pk, df⟩ rfl rfl rfl hoff rfl; change y.on = false at hoff
 skip
 refine Wp.loop (fun k : Nat => ⟨[(2, .loc 2 0 0), (5, .int (lensW l k)), (8, .pure (encS l)), (9, .int l.length), (10, .int k)], [(2, some (.box [.pure (encS d.sectors), .pure (encWs d.pending), .int d.left, .bool d.stopped]))], [2]⟩) (fun k => k ≤ l.length) (fun k => l.length - k) 0 (Le.of ?_ ?_ rfl rfl rfl) (by omega) ?_
 · (repeat' (first|exact trivial|refine aq ?_ ?_|exact oq|exact l1 bd|fail))
 · (repeat' (first|exact trivial|refine aq ?_ ?_|refine Exists.intro _ (aq rfl ?_)|exact oq|fail))
 intro k hk
 by_cases hk2 : k < l.length
 · have hb2 := hb _ (List.getElem_mem hk2)
   have hn : lensW l (k + 1) = IntKind.i64.wrap (lensW l k + (1 + (l[k].length : Int))) := by
     show IntKind.i64.wrap (lensW l k + (1 + ((l.getD k []).length : Int))) = _
     rw [show l.getD k [] = l[k] by simp [List.getD, hk2]]
   obtain ⟨s, hs⟩ : ∃ s, s = lensW l k := ⟨_, rfl⟩
   rw [← hs] at hn ⊢
   have hlb : ((l[k]).map fun b : UInt8 => [PV.val (.int .u8 (b.toNat : Int))]).length = l[k].length := List.length_map ..
   refine code_sound (more := more2 false _ _) more2_ok FOK.wide _ ?_
   repeat' ((try conv => whnf); first|(first|refine k3 ?_ ?_|refine k4 ?_ ?_) <;> intro hb <;> (try rw [lM] at hb) <;> try (exfalso; omega)|refine s4 nm ?_|refine s5 nm nm ?_|fail)
   refine ⟨_, rfl, ?_⟩
   repeat' ((try conv => whnf); first|refine s4 nm ?_|fail)
   refine ⟨k + 1, Le.of ?_ (by (repeat' (first|exact trivial|refine aq ?_ ?_|refine Exists.intro _ (aq rfl ?_)|exact oq|fail))) rfl rfl rfl, by omega, by omega⟩
   rw [hn]
   (repeat' (first|exact trivial|refine aq ?_ ?_|exact oq|exact l1 bd|fail))
   all_goals trace_state
 · have ek : k = l.length := by omega
   subst ek
   rw [← hm]
   refine code_sound (more := more2 false _ _) more2_ok FOK.wide _ ?_
   repeat' ((try conv => whnf); first|(first|refine k3 ?_ ?_|refine k4 ?_ ?_) <;> intro hb <;> (try rw [lM] at hb) <;> try (exfalso; omega)|fail)
   all_goals (refine PSub.val_bool (Bool.eq_iff_iff.2 ?_); simp only [Bool.and_eq_true, decide_eq_true_eq, Bool.false_eq_true, false_iff]; omega)
end Go.Proofs.Ytcgpikmaapallaa
