/- Journals: Check, Room and Append, whatever the sizes. Conditions: none. -/
import Derived.Test.YtcgpikmaapallaaWd
import Derived.Test.YtcgpikmaapallaaWj
set_option linter.unusedSimpArgs false
set_option linter.unusedVariables false
set_option maxRecDepth 20000
set_option maxHeartbeats 4000000
namespace Go.Proofs.Ytcgpikmaapallaa
open Go.Avc
def occW (l : List (List UInt8)) : Nat → Int
 | 0 => 0
 | k + 1 => IntKind.i64.wrap (occW l k + (piecesN (l.getD k []).length : Int))
def occA (j : Jour) : Int := occW j.records j.records.length
def gdW (j : Jour) : Prop := ¬ j.many < 1 ∧ ¬ 4096 < j.many ∧ ¬ j.synced < 0 ∧ ¬ (j.records.length : Int) < j.synced ∧ ¬ j.many < occA j
instance (j : Jour) : Decidable (gdW j) := by unfold gdW; infer_instance
def chkW (j : Jour) : Int := if gdW j then 0 else 1
def rmW (j : Jour) : Int := if gdW j then IntKind.i64.wrap (112 * IntKind.i64.wrap (j.many - occA j)) else 0
def apW (j : Jour) (b : List UInt8) : Jour × Int := if gdW j then (if IntKind.i64.wrap (j.many - occA j) < (piecesN b.length : Int) then (zeroJ, 2) else (⟨j.records ++ [b], j.many, j.synced⟩, 0)) else (zeroJ, 1)
attribute [local irreducible] PSub Wp PSpec Le Need Both
theorem cloneS_ownW (ws : List (List UInt8)) (h : ws.length * 24 ≤ 140737488351232) : GSpec Try.prog 38 1 ⟨[(0, .pure (encS ws))], [], []⟩ [] 1 ⟨[(0, .lsl 7 0 ws.length)], [(7, some (.row 1 (ws.map fun s => [encB s])))], [7]⟩ := by
 have lW : (ws.map fun s => [encB s]).length = ws.length := List.length_map ..
 refine GSpec.of_vc (fun Γ => more2 false Γ.P Γ.fx) (fun Γ => more2_ok) Try.func38 rfl Try.call38 (by simp) ?_
 rintro ⟨P, N, w0, X, β0, fx, y, hy, pk, df⟩ rfl rfl rfl hoff rfl; change y.on = false at hoff
 skip
 intro r hr
 repeat' ((try conv => whnf); first|refine k6 (fun hb => ?_) fun hb => ?_|refine aq rfl ?_|refine aq bd ?_|fail)
 · have e : ws = [] := List.map_eq_nil_iff.1 (hr hb)
   subst e
   exact Le.trans (Le.virt (k := 7) (sz := 1) rfl rfl (by omega)) (Le.of ⟨Or.inr (Or.inr (Or.inr ⟨7, rfl, rfl, rfl⟩)), trivial⟩ ⟨rfl, trivial⟩ rfl rfl rfl)
 · exact Le.of ⟨SubA.lsl (by simp), trivial⟩ ⟨rfl, trivial⟩ rfl rfl rfl
theorem occupiedW_spec (l : List (List UInt8)) (h : RecSz l) : PSpec Try.prog 37 [encS l] (.int (occW l l.length)) := by
 obtain ⟨h24, hb⟩ := h
 have hlen : l.length ≤ 140737488355328 := by omega
 refine PSpec.of_vc (fun Γ => more2 false Γ.P Γ.fx) (fun Γ => more2_ok) Try.func37 rfl Try.call37 (by simp) ?_
 rintro ⟨P, N, w0, X, β0, fx, y, hy, pk, df⟩ rfl rfl rfl hoff rfl; change y.on = false at hoff
 skip
 refine Wp.loop (fun k : Nat => ⟨[(2, .int (occW l k)), (5, .pure (encS l)), (6, .int l.length), (7, .int k)], [], []⟩) (fun k => k ≤ l.length) (fun k => l.length - k) 0 (Le.of ?_ ?_ rfl rfl rfl) (by omega) ?_
 · (repeat' (first|exact trivial|refine aq ?_ ?_|exact oq|exact l1 bd|fail))
 · (repeat' (first|exact trivial|fail))
 intro k hk
 by_cases hk2 : k < l.length
 · have hb2 := hb _ (List.getElem_mem hk2)
   have hn : occW l (k + 1) = IntKind.i64.wrap (occW l k + (piecesN l[k].length : Int)) := by
     show IntKind.i64.wrap (occW l k + (piecesN (l.getD k []).length : Int)) = _
     rw [show l.getD k [] = l[k] by simp [List.getD, hk2]]
   have q := pieces_spec l[k].length (by omega)
   obtain ⟨pn, hpn⟩ : ∃ pn, pn = piecesN l[k].length := ⟨_, rfl⟩
   obtain ⟨s, hs⟩ : ∃ s, s = occW l k := ⟨_, rfl⟩
   rw [← hpn] at q hn
   rw [← hs] at hn ⊢
   refine code_sound (more := more2 false _ _) more2_ok FOK.wide _ ?_
   repeat' ((try conv => whnf); first|(first|refine k3 ?_ ?_|refine k4 ?_ ?_) <;> intro hb <;> (try rw [lM] at hb) <;> try (exfalso; omega)|refine s5 nm nm ?_|fail)
   refine .inl ⟨.int pn, by simp only [List.length_map]; exact q, ?_⟩
   skip
   refine ⟨_, rfl, ?_⟩
   repeat' ((try conv => whnf); first|refine s4 nm ?_|fail)
   refine ⟨k + 1, Le.of ?_ (by (repeat' (first|exact trivial|fail))) rfl rfl rfl, by omega, by omega⟩
   rw [hn]
   (repeat' (first|exact trivial|refine aq ?_ ?_|exact oq|fail))
 · have ek : k = l.length := by omega
   subst ek
   refine code_sound (more := more2 false _ _) more2_ok FOK.wide _ ?_
   repeat' ((try conv => whnf); first|(first|refine k3 ?_ ?_|refine k4 ?_ ?_) <;> intro hb <;> (try rw [lM] at hb) <;> try (exfalso; omega)|fail)
   exact PSub.refl _
theorem usedW_spec (l : List (List UInt8)) (h : RecSz l) : PSpec Try.prog 41 [encS l] (.int (occW l l.length)) := by
 obtain ⟨h24, hb⟩ := h
 have hlen : l.length ≤ 140737488355328 := by omega
 refine PSpec.of_vc (fun Γ => more2 false Γ.P Γ.fx) (fun Γ => more2_ok) Try.func41 rfl Try.call41 (by simp) ?_
 rintro ⟨P, N, w0, X, β0, fx, y, hy, pk, df⟩ rfl rfl rfl hoff rfl; change y.on = false at hoff
 skip
 refine Wp.loop (fun k : Nat => ⟨[(0, .pure (encS l)), (3, .int (occW l k)), (4, .int k)], [], []⟩) (fun k => k ≤ l.length) (fun k => l.length - k) 0 (Le.of ?_ ?_ rfl rfl rfl) (by omega) ?_
 · (repeat' (first|exact trivial|refine aq ?_ ?_|exact oq|fail))
 · (repeat' (first|exact trivial|fail))
 intro k hk
 by_cases hk2 : k < l.length
 · have hb2 := hb _ (List.getElem_mem hk2)
   have hn : occW l (k + 1) = IntKind.i64.wrap (occW l k + (piecesN l[k].length : Int)) := by
     show IntKind.i64.wrap (occW l k + (piecesN (l.getD k []).length : Int)) = _
     rw [show l.getD k [] = l[k] by simp [List.getD, hk2]]
   have q := sectors_spec l[k].length (by omega)
   obtain ⟨pn, hpn⟩ : ∃ pn, pn = piecesN l[k].length := ⟨_, rfl⟩
   obtain ⟨s, hs⟩ : ∃ s, s = occW l k := ⟨_, rfl⟩
   rw [← hpn] at q hn
   rw [← hs] at hn ⊢
   refine code_sound (more := more2 false _ _) more2_ok FOK.wide _ ?_
   repeat' ((try conv => whnf); first|(first|refine k3 ?_ ?_|refine k4 ?_ ?_) <;> intro hb <;> (try rw [lM] at hb) <;> try (exfalso; omega)|refine s5 nm nm ?_|fail)
   refine .inl ⟨.int pn, by simp only [List.length_map]; exact q, ?_⟩
   skip
   refine ⟨_, rfl, ?_⟩
   repeat' ((try conv => whnf); first|refine s4 nm ?_|fail)
   refine ⟨k + 1, Le.of ?_ (by (repeat' (first|exact trivial|fail))) rfl rfl rfl, by omega, by omega⟩
   rw [hn]
   (repeat' (first|exact trivial|refine aq ?_ ?_|exact oq|fail))
 · have ek : k = l.length := by omega
   subst ek
   refine code_sound (more := more2 false _ _) more2_ok FOK.wide _ ?_
   repeat' ((try conv => whnf); first|(first|refine k3 ?_ ?_|refine k4 ?_ ?_) <;> intro hb <;> (try rw [lM] at hb) <;> try (exfalso; omega)|fail)
   exact PSub.refl _
theorem jcheckW_spec (j : Jour) (h : RecSz j.records) : PSpec Try.prog 17 [encJ j] (.int (chkW j)) := by
 have q := occupiedW_spec j.records h
 have hlen : j.records.length ≤ 140737488355328 := by have := h.h24; omega
 have bad : ¬ gdW j → PSub (.val (.int .i64 1)) (.int (chkW j)) := fun h => PSub.val_int (by unfold chkW; rw [if_neg h])
 obtain ⟨oc, hoc⟩ : ∃ oc, oc = occA j := ⟨_, rfl⟩
 have hg : gdW j ↔ ¬ j.many < 1 ∧ ¬ 4096 < j.many ∧ ¬ j.synced < 0 ∧ ¬ (j.records.length : Int) < j.synced ∧ ¬ j.many < oc := by rw [hoc]; exact Iff.rfl
 rw [show occW j.records j.records.length = oc from hoc.symm] at q
 refine PSpec.of_vc (fun Γ => more2 false Γ.P Γ.fx) (fun Γ => more2_ok) Try.func17 rfl Try.call17 (by simp) ?_
 rintro ⟨P, N, w0, X, β0, fx, y, hy, pk, df⟩ rfl rfl rfl hoff rfl; change y.on = false at hoff
 skip
 refine Wp.draw (more := more2 true _ _) more2_det more2_ok FOK.wide rfl (by decide +kernel) (by conv => lhs; reduce) ?_
 repeat' ((try conv => whnf); first|(first|refine k3 ?_ ?_|refine k4 ?_ ?_) <;> intro hb <;> (try rw [lM] at hb) <;> try (exfalso; omega)|fail)
 · exact bad fun h => (hg.1 h).1 (by omega)
 · exact bad fun h => (hg.1 h).2.1 (by omega)
 · exact bad fun h => (hg.1 h).2.2.1 (by omega)
 · exact bad fun h => (hg.1 h).2.2.2.1 (by omega)
 refine ⟨_, q, ?_⟩
 repeat' ((try conv => whnf); first|(first|refine k3 ?_ ?_|refine k4 ?_ ?_) <;> intro hb <;> (try rw [lM] at hb) <;> try (exfalso; omega)|fail)
 · exact bad fun h => (hg.1 h).2.2.2.2 (by omega)
 · exact PSub.val_int (by unfold chkW; rw [if_pos (hg.2 ⟨by omega, by omega, by omega, by omega, by omega⟩)])
theorem rcheckW_spec (j : Jour) (h : RecSz j.records) : PSpec Try.prog 18 [encJ j] (.int (chkW j)) := by
 have q := usedW_spec j.records h
 have hlen : j.records.length ≤ 140737488355328 := by have := h.h24; omega
 have bad : ¬ gdW j → PSub (.val (.int .i64 1)) (.int (chkW j)) := fun h => PSub.val_int (by unfold chkW; rw [if_neg h])
 obtain ⟨oc, hoc⟩ : ∃ oc, oc = occA j := ⟨_, rfl⟩
 have hg : gdW j ↔ ¬ j.many < 1 ∧ ¬ 4096 < j.many ∧ ¬ j.synced < 0 ∧ ¬ (j.records.length : Int) < j.synced ∧ ¬ j.many < oc := by rw [hoc]; exact Iff.rfl
 rw [show occW j.records j.records.length = oc from hoc.symm] at q
 refine PSpec.of_vc (fun Γ => more2 false Γ.P Γ.fx) (fun Γ => more2_ok) Try.func18 rfl Try.call18 (by simp) ?_
 rintro ⟨P, N, w0, X, β0, fx, y, hy, pk, df⟩ rfl rfl rfl hoff rfl; change y.on = false at hoff
 skip
 refine Wp.draw (more := more2 true _ _) more2_det more2_ok FOK.wide rfl (by decide +kernel) (by conv => lhs; reduce) ?_
 repeat' ((try conv => whnf); first|(first|refine k3 ?_ ?_|refine k4 ?_ ?_) <;> intro hb <;> (try rw [lM] at hb) <;> try (exfalso; omega)|fail)
 · exact bad fun h => (hg.1 h).1 (by omega)
 · exact bad fun h => (hg.1 h).2.1 (by omega)
 · exact bad fun h => (hg.1 h).2.2.1 (by omega)
 · exact bad fun h => (hg.1 h).2.2.2.1 (by omega)
 refine ⟨_, q, ?_⟩
 repeat' ((try conv => whnf); first|(first|refine k3 ?_ ?_|refine k4 ?_ ?_) <;> intro hb <;> (try rw [lM] at hb) <;> try (exfalso; omega)|fail)
 · exact bad fun h => (hg.1 h).2.2.2.2 (by omega)
 · exact PSub.val_int (by unfold chkW; rw [if_pos (hg.2 ⟨by omega, by omega, by omega, by omega, by omega⟩)])
theorem roomW_spec (j : Jour) (h : RecSz j.records) : PSpec Try.prog 19 [encJ j] (.int (rmW j)) := by
 have q := occupiedW_spec j.records h
 have qc := jcheckW_spec j h
 obtain ⟨oc, hoc⟩ : ∃ oc, oc = occA j := ⟨_, rfl⟩
 rw [show occW j.records j.records.length = oc from hoc.symm] at q
 by_cases hg : gdW j
 · have e : chkW j = 0 := by unfold chkW; rw [if_pos hg]
   have e2 : rmW j = IntKind.i64.wrap (112 * IntKind.i64.wrap (j.many - oc)) := by unfold rmW; rw [if_pos hg, hoc]
   rw [e] at qc
   rw [e2]
   refine PSpec.of_vc (fun Γ => more2 false Γ.P Γ.fx) (fun Γ => more2_ok) Try.func19 rfl Try.call19 (by simp) ?_
   rintro ⟨P, N, w0, X, β0, fx, y, hy, pk, df⟩ rfl rfl rfl hoff rfl; change y.on = false at hoff
   skip
   refine .inl ⟨_, qc, ?_⟩
   skip
   refine Wp.draw (more := more2 true _ _) more2_det more2_ok FOK.wide rfl (by decide +kernel) (by conv => lhs; reduce) ?_
   skip
   refine ⟨_, q, ?_⟩
   skip
   refine ⟨_, rfl, ?_⟩
   skip
   refine ⟨_, rfl, ?_⟩
   skip
   exact PSub.refl _
 · have e : chkW j = 1 := by unfold chkW; rw [if_neg hg]
   have e2 : rmW j = 0 := by unfold rmW; rw [if_neg hg]
   rw [e] at qc
   rw [e2]
   refine PSpec.of_vc (fun Γ => more2 false Γ.P Γ.fx) (fun Γ => more2_ok) Try.func19 rfl Try.call19 (by simp) ?_
   rintro ⟨P, N, w0, X, β0, fx, y, hy, pk, df⟩ rfl rfl rfl hoff rfl; change y.on = false at hoff
   skip
   refine .inl ⟨_, qc, ?_⟩
   skip
   exact PSub.refl _
theorem rroomW_spec (j : Jour) (h : RecSz j.records) : PSpec Try.prog 20 [encJ j] (.int (rmW j)) := by
 have q := usedW_spec j.records h
 have qc := rcheckW_spec j h
 obtain ⟨oc, hoc⟩ : ∃ oc, oc = occA j := ⟨_, rfl⟩
 rw [show occW j.records j.records.length = oc from hoc.symm] at q
 by_cases hg : gdW j
 · have e : chkW j = 0 := by unfold chkW; rw [if_pos hg]
   have e2 : rmW j = IntKind.i64.wrap (112 * IntKind.i64.wrap (j.many - oc)) := by unfold rmW; rw [if_pos hg, hoc]
   rw [e] at qc
   rw [e2]
   refine PSpec.of_vc (fun Γ => more2 false Γ.P Γ.fx) (fun Γ => more2_ok) Try.func20 rfl Try.call20 (by simp) ?_
   rintro ⟨P, N, w0, X, β0, fx, y, hy, pk, df⟩ rfl rfl rfl hoff rfl; change y.on = false at hoff
   skip
   refine .inl ⟨_, qc, ?_⟩
   skip
   refine Wp.draw (more := more2 true _ _) more2_det more2_ok FOK.wide rfl (by decide +kernel) (by conv => lhs; reduce) ?_
   skip
   refine ⟨_, q, ?_⟩
   skip
   refine ⟨_, rfl, ?_⟩
   skip
   refine ⟨_, rfl, ?_⟩
   skip
   exact PSub.refl _
 · have e : chkW j = 1 := by unfold chkW; rw [if_neg hg]
   have e2 : rmW j = 0 := by unfold rmW; rw [if_neg hg]
   rw [e] at qc
   rw [e2]
   refine PSpec.of_vc (fun Γ => more2 false Γ.P Γ.fx) (fun Γ => more2_ok) Try.func20 rfl Try.call20 (by simp) ?_
   rintro ⟨P, N, w0, X, β0, fx, y, hy, pk, df⟩ rfl rfl rfl hoff rfl; change y.on = false at hoff
   skip
   refine .inl ⟨_, qc, ?_⟩
   skip
   exact PSub.refl _
theorem appendW_spec (j : Jour) (b : List UInt8) (h : RecSz j.records) (hb1 : b.length ≤ 100000) : PSpec Try.prog 15 [encJ j, encB b] (encJE (apW j b)) := by
 have q := occupiedW_spec j.records h
 have qc := jcheckW_spec j h
 have qp := pieces_spec b.length (by omega)
 have h24 := h.h24
 obtain ⟨pn, hpn⟩ : ∃ pn, pn = piecesN b.length := ⟨_, rfl⟩
 obtain ⟨oc, hoc⟩ : ∃ oc, oc = occA j := ⟨_, rfl⟩
 rw [show occW j.records j.records.length = oc from hoc.symm] at q
 have happ : apW j b = if gdW j then (if IntKind.i64.wrap (j.many - oc) < (pn : Int) then (zeroJ, 2) else (⟨j.records ++ [b], j.many, j.synced⟩, 0)) else (zeroJ, 1) := by rw [hpn, hoc]; rfl
 rw [happ]
 rw [← hpn] at qp
 by_cases hg : gdW j
 · have e : chkW j = 0 := by unfold chkW; rw [if_pos hg]
   rw [if_pos hg]
   rw [e] at qc
   obtain ⟨df', hdf⟩ : ∃ x, x = IntKind.i64.wrap (j.many - oc) := ⟨_, rfl⟩
   rw [← hdf]
   refine PSpec.of_vc (fun Γ => more2 false Γ.P Γ.fx) (fun Γ => more2_ok) Try.func15 rfl Try.call15 (by simp) ?_
   rintro ⟨P, N, w0, X, β0, fx, y, hy, pk, df⟩ rfl rfl rfl hoff rfl; change y.on = false at hoff
   skip
   refine .inl ⟨_, qc, ?_⟩
   skip
   refine Wp.draw (more := more2 true _ _) more2_det more2_ok FOK.wide rfl (by decide +kernel) (by conv => lhs; reduce) ?_
   skip
   refine ⟨.int pn, by simp only [List.length_map]; exact qp, ?_⟩
   skip
   refine ⟨_, q, ?_⟩
   skip
   refine ⟨_, hdf.symm, ?_⟩
   repeat' ((try conv => whnf); first|(first|refine k3 ?_ ?_|refine k4 ?_ ?_) <;> intro hb <;> (try rw [lM] at hb) <;> try (exfalso; omega)|refine aq rfl ?_|fail)
   · exact sub_jz (by rw [if_pos (by assumption)])
   rw [if_neg (by assumption)]
   refine .inr ⟨[(7, 27)], [.pure (encS j.records)], [], [], [], 1, _, cloneS_ownW j.records h24, ⟨Or.inl rfl, trivial⟩, trivial, ?_⟩
   skip
   refine .inl ⟨_, cloneB_spec b (by omega), ?_⟩
   repeat' ((try conv => whnf); first|refine aq rfl ?_|refine aq bd ?_|fail)
   refine sub_je (PSub.agg ⟨sub_sl ?_, PSub.refl _, PSub.refl _, trivial⟩) rfl
   rw [List.map_append]
   exact List.take_of_length_le (by simp)
 · have e : chkW j = 1 := by unfold chkW; rw [if_neg hg]
   rw [if_neg hg]
   rw [e] at qc
   refine PSpec.of_vc (fun Γ => more2 false Γ.P Γ.fx) (fun Γ => more2_ok) Try.func15 rfl Try.call15 (by simp) ?_
   rintro ⟨P, N, w0, X, β0, fx, y, hy, pk, df⟩ rfl rfl rfl hoff rfl; change y.on = false at hoff
   skip
   refine .inl ⟨_, qc, ?_⟩
   repeat' ((try conv => whnf); first|refine aq rfl ?_|fail)
   exact sub_jz rfl
theorem rappendW_spec (j : Jour) (b : List UInt8) (h : RecSz j.records) (hb1 : b.length ≤ 100000) : PSpec Try.prog 16 [encJ j, encB b] (encJE (apW j b)) := by
 have q := usedW_spec j.records h
 have qc := rcheckW_spec j h
 have qp := sectors_spec b.length (by omega)
 have h24 := h.h24
 obtain ⟨pn, hpn⟩ : ∃ pn, pn = piecesN b.length := ⟨_, rfl⟩
 obtain ⟨oc, hoc⟩ : ∃ oc, oc = occA j := ⟨_, rfl⟩
 rw [show occW j.records j.records.length = oc from hoc.symm] at q
 have happ : apW j b = if gdW j then (if IntKind.i64.wrap (j.many - oc) < (pn : Int) then (zeroJ, 2) else (⟨j.records ++ [b], j.many, j.synced⟩, 0)) else (zeroJ, 1) := by rw [hpn, hoc]; rfl
 rw [happ]
 rw [← hpn] at qp
 by_cases hg : gdW j
 · have e : chkW j = 0 := by unfold chkW; rw [if_pos hg]
   rw [if_pos hg]
   rw [e] at qc
   obtain ⟨df', hdf⟩ : ∃ x, x = IntKind.i64.wrap (j.many - oc) := ⟨_, rfl⟩
   rw [← hdf]
   refine PSpec.of_vc (fun Γ => more2 false Γ.P Γ.fx) (fun Γ => more2_ok) Try.func16 rfl Try.call16 (by simp) ?_
   rintro ⟨P, N, w0, X, β0, fx, y, hy, pk, df⟩ rfl rfl rfl hoff rfl; change y.on = false at hoff
   skip
   refine .inl ⟨_, qc, ?_⟩
   skip
   refine Wp.draw (more := more2 true _ _) more2_det more2_ok FOK.wide rfl (by decide +kernel) (by conv => lhs; reduce) ?_
   skip
   refine ⟨.int pn, by simp only [List.length_map]; exact qp, ?_⟩
   skip
   refine ⟨_, q, ?_⟩
   skip
   refine ⟨_, hdf.symm, ?_⟩
   repeat' ((try conv => whnf); first|(first|refine k3 ?_ ?_|refine k4 ?_ ?_) <;> intro hb <;> (try rw [lM] at hb) <;> try (exfalso; omega)|refine aq rfl ?_|refine aq bd ?_|fail)
   · exact sub_jz (by rw [if_pos (by assumption)])
   rw [if_neg (by assumption)]
   refine sub_je (PSub.agg ⟨sub_sl ?_, PSub.refl _, PSub.refl _, trivial⟩) rfl
   rw [List.map_append]
   exact List.take_of_length_le (by simp)
 · have e : chkW j = 1 := by unfold chkW; rw [if_neg hg]
   rw [if_neg hg]
   rw [e] at qc
   refine PSpec.of_vc (fun Γ => more2 false Γ.P Γ.fx) (fun Γ => more2_ok) Try.func16 rfl Try.call16 (by simp) ?_
   rintro ⟨P, N, w0, X, β0, fx, y, hy, pk, df⟩ rfl rfl rfl hoff rfl; change y.on = false at hoff
   skip
   refine .inl ⟨_, qc, ?_⟩
   repeat' ((try conv => whnf); first|refine aq rfl ?_|fail)
   exact sub_jz rfl
end Go.Proofs.Ytcgpikmaapallaa
/- Journals: the law of Append is walked, whatever the sizes. Conditions: none. -/
namespace Go.Proofs.Ytcgpikmaapallaa
open Go.Avc
attribute [local irreducible] PSub Wp PSpec Le Need Both
theorem appendLaw_wide (j : Jour) (b : List UInt8) (hj : RecSz j.records) (hm : IntKind.i64.has j.many) (hb1 : b.length ≤ 140737488355328) : PSpec Try.prog 4 [encJ j, encB b] (.bool true) := by
 have qf := (jfew_any zeroD j.records hj).args (args := [.agg [.val (.slice none 0 0), .val (.slice none 0 0), .val (.int .i64 0), .val (.bool false)], encS j.records]) ⟨PSub.agg ⟨PSub.nil 1, PSub.nil 2, PSub.refl _, PSub.refl _, trivial⟩, PSub.refl _, trivial⟩
 obtain ⟨F, hF⟩ : ∃ F, F = fewW zeroD j.records := ⟨_, rfl⟩
 rw [← hF] at qf
 have h24 := hj.h24
 by_cases h7 : b.length ≤ 70000
 case neg =>
   refine PSpec.of_vc (fun Γ => more3 false Γ.P Γ.fx) (fun Γ => more3_ok) Try.func4 rfl Try.call4 (by simp) ?_
   rintro ⟨P, N, w0, X, β0, fx, y, hy, pk, df⟩ rfl rfl rfl hoff rfl; change y.on = false at hoff
   skip
   refine .inl ⟨_, jsane_spec, ?_⟩
   skip
   refine .inl ⟨_, qf, ?_⟩
   repeat' ((try conv => whnf); first|(first|refine k3 ?_ ?_|refine k4 ?_ ?_) <;> intro hb <;> (try rw [lM] at hb) <;> try (exfalso; omega)|refine k5 (fun hb => ?_) fun hb => ?_|fail)
   all_goals exact PSub.refl _
 have qa := appendW_spec j b hj (by omega)
 have qa' := rappendW_spec j b hj (by omega)
 have qc := jcheckW_spec j hj
 have qc' := rcheckW_spec j hj
 have qr := roomW_spec j hj
 have qr' := rroomW_spec j hj
 have ql : (apW j b).1.records.length ≤ 140737488355328 := by
   unfold apW
   split
   · split
     · simp [zeroJ]
     · simp; omega
   · simp [zeroJ]
 obtain ⟨A, hA⟩ : ∃ A, A = apW j b := ⟨_, rfl⟩
 obtain ⟨C, hC⟩ : ∃ C, C = chkW j := ⟨_, rfl⟩
 obtain ⟨M, hM⟩ : ∃ M, M = rmW j := ⟨_, rfl⟩
 rw [← hA] at qa qa' ql
 rw [← hC] at qc qc'
 rw [← hM] at qr qr'
 clear hA hC hM
 obtain ⟨A1, A2⟩ := A
 have qs := jsame_spec A1 A1 ql
 rw [A1.same_self] at qs
 refine PSpec.of_vc (fun Γ => more3 false Γ.P Γ.fx) (fun Γ => more3_ok) Try.func4 rfl Try.call4 (by simp) ?_
 rintro ⟨P, N, w0, X, β0, fx, y, hy, pk, df⟩ rfl rfl rfl hoff rfl; change y.on = false at hoff
 skip
 refine .inl ⟨_, jsane_spec, ?_⟩
 skip
 refine .inl ⟨_, qf, ?_⟩
 repeat' ((try conv => whnf); first|(first|refine k3 ?_ ?_|refine k4 ?_ ?_) <;> intro hb <;> (try rw [lM] at hb) <;> try (exfalso; omega)|refine k5 (fun hb => ?_) fun hb => ?_|fail)
 rotate_left
 · exact PSub.refl _
 refine .inl ⟨_, qa, ?_⟩
 repeat' ((try conv => whnf); first|refine aq rfl ?_|fail)
 refine .inl ⟨_, qa', ?_⟩
 repeat' ((try conv => whnf); first|refine aq rfl ?_|fail)
 refine Wp.draw (more := more3 true _ _) more3_det more3_ok FOK.wide rfl (by decide +kernel) (by conv => lhs; reduce) ?_
 skip
 refine ⟨_, qc, ?_⟩
 skip
 refine ⟨_, qc', ?_⟩
 repeat' ((try conv => whnf); first|(first|refine k3 ?_ ?_|refine k4 ?_ ?_) <;> intro hb <;> (try rw [lM] at hb) <;> try (exfalso; omega)|fail)
 refine ⟨_, qr, ?_⟩
 skip
 refine ⟨_, qr', ?_⟩
 repeat' ((try conv => whnf); first|(first|refine k3 ?_ ?_|refine k4 ?_ ?_) <;> intro hb <;> (try rw [lM] at hb) <;> try (exfalso; omega)|fail)
 refine ⟨_, qs, ?_⟩
 skip
 exact PSub.val_bool (by simp)
end Go.Proofs.Ytcgpikmaapallaa
