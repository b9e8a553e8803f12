/- Parties: the reference's Formed, own, encoded, Check. Conditions: none. -/
import Derived.Test.YtjfjpnefohbobaaGreatDoorWd
import Derived.Test.YtjfjpnefohbobaaGreatDoorXe
import Derived.Test.YtjfjpnefohbobaaGreatDoorXj
import Derived.Test.YtjfjpnefohbobaaGreatDoorWk
import Derived.Test.YtjfjpnefohbobaaGreatDoorWm
import Derived.Test.YtjfjpnefohbobaaGreatDoorXk
set_option linter.unusedSimpArgs false
set_option linter.unusedVariables false
set_option maxRecDepth 20000
set_option maxHeartbeats 4000000
namespace Go.Proofs.YtjfjpnefohbobaaGreatDoor
open Go.Avc
theorem valid_party {l : List Rec} (h : Valid l) {k : Nat} (hk : k < l.length) : l[k].party = firstP l := by
 have hf := (h k hk).same
 rcases hf with h0 | ⟨h1, _⟩
 · rw [List.length_take] at h0
   have : k = 0 := by omega
   subst this
   exact firstP_at hk
 · by_cases h0 : k = 0
   · subst h0; exact firstP_at hk
   · rw [h1, firstP_take (by omega) (by omega)]
attribute [local irreducible] PSub Wp PSpec Le Need Both
attribute [local irreducible] recE recD tagged sha headOf decF decode
theorem rpformed_spec (p : Party) : PSpec Tryz.prog 43 [.agg (encP p)] (.bool (decide p.formed)) := by
 have q := K.refCheck_spec p.disk
 obtain ⟨c, hc⟩ : ∃ c, c = p.disk.check := ⟨_, rfl⟩
 rw [← hc] at q
 refine PSpec.of_vc (fun Γ => more6 false Γ.P Γ.fx) (fun Γ => more6_ok) Tryz.func43 rfl Tryz.call43 (by simp) ?_
 rintro ⟨P, N, w0, X, β0, fx, y, hy, pk, df⟩ rfl rfl rfl hoff rfl; change y.on = false at hoff
 repeat' ((try conv => whnf); first|(first|refine k3 ?_ ?_|refine k4 ?_ ?_) <;> intro hb <;> (try rw [lM] at hb) <;> try (exfalso; omega)|fail)
 · refine .inl ⟨_, q, ?_⟩
   skip
   exact PSub.val_bool (by rw [decide_eq_decide]; unfold Party.formed; rw [← hc]; constructor <;> intro h <;> first | exact h.2.2 | exact ⟨by omega, by omega, h⟩)
 all_goals exact PSub.val_bool (decide_eq_false (by unfold Party.formed; omega)).symm
theorem rpown_spec (l : List Rec) (id : Int) (hl : ∀ x ∈ l, x.can) (hlen : l.length ≤ 1000000) : PSpec Tryz.prog 44 [encRs l, .int id] (.bool (ownedB id l)) := by
 have q := rvCheck_spec l hl
 obtain ⟨c, hc⟩ : ∃ c, c = errV (validB l) := ⟨_, rfl⟩
 rw [← hc] at q
 refine PSpec.of_vc (fun Γ => more6 false Γ.P Γ.fx) (fun Γ => more6_ok) Tryz.func44 rfl Tryz.call44 (by simp) ?_
 rintro ⟨P, N, w0, X, β0, fx, y, hy, pk, df⟩ rfl rfl rfl hoff rfl; change y.on = false at hoff
 skip
 refine .inl ⟨_, q, ?_⟩
 repeat' ((try conv => whnf); first|(first|refine k3 ?_ ?_|refine k4 ?_ ?_) <;> intro hb <;> (try rw [lM] at hb) <;> try (exfalso; omega)|fail)
 rotate_left
 · exact PSub.val_bool (ownedB_false (fun ho => by rw [validB_true ho.1] at hc; exact absurd hc (by assumption))).symm
 have hv := errV_zero (l := l) (by rw [← hc]; omega)
 refine Wp.loop (fun k : Nat => ⟨[(0, .pure (encRs l)), (1, .int id), (5, .int k)], [], []⟩) (fun k => k ≤ l.length ∧ (0 < k → firstP l = id)) (fun k => l.length - k) 0 (Le.of ?_ ?_ rfl rfl rfl) ⟨by omega, by omega⟩ ?_
 · (repeat' (first|exact trivial|refine aq ?_ ?_|exact oq|fail))
 · (repeat' (first|exact trivial|fail))
 rintro k ⟨hk, hp⟩
 by_cases hk2 : k < l.length
 · have hvp := valid_party hv hk2
   refine code_sound (more := more6 false _ _) more6_ok FOK.wide _ ?_
   repeat' ((try conv => whnf); first|(first|refine k3 ?_ ?_|refine k4 ?_ ?_) <;> intro hb <;> (try rw [lM] at hb) <;> try (exfalso; omega)|refine s4 nm ?_|refine s5 nm nm ?_|fail)
   rotate_left
   · refine PSub.val_bool (ownedB_false (fun ho => ?_)).symm
     rcases ho.2 with h | h
     · omega
     · rw [h] at hvp; exact absurd hvp (by assumption)
   · exact ⟨k + 1, Le.of (by (repeat' (first|exact trivial|refine aq ?_ ?_|exact oq|fail))) (by (repeat' (first|exact trivial|fail))) rfl rfl rfl, ⟨by omega, fun _ => hvp.symm.trans (by assumption)⟩, by omega⟩
 · refine code_sound (more := more6 false _ _) more6_ok FOK.wide _ ?_
   repeat' ((try conv => whnf); first|(first|refine k3 ?_ ?_|refine k4 ?_ ?_) <;> intro hb <;> (try rw [lM] at hb) <;> try (exfalso; omega)|fail)
   refine PSub.val_bool (ownedB_true ⟨hv, ?_⟩).symm
   by_cases h0 : l.length = 0
   · exact .inl h0
   · exact .inr (hp (by omega))
theorem jr_len {d : K.Disk} (h : d.check = 0) : (jr d).records.length ≤ 1000000 := by
 have h1 := occ_le h
 have h2 := (good_of h).2.1
 have h3 : ∀ l : List (List UInt8), l.length ≤ K.occN l := by
   intro l
   induction l with
   | nil => exact Nat.zero_le _
   | cons x l ih => simp only [K.occN, List.map_cons, List.sum_cons, List.length_cons] at ih ⊢; have := K.pieces_pos x.length; omega
 have h4 := h3 (jr d).records
 simp only [jr] at h4 ⊢
 omega
end Go.Proofs.YtjfjpnefohbobaaGreatDoor
/- Parties: the reference's New, Note, Crash, Restart, Count. Conditions: none. -/
namespace Go.Proofs.YtjfjpnefohbobaaGreatDoor
open Go.Avc
attribute [local irreducible] PSub Wp PSpec Le Need Both
attribute [local irreducible] recE recD tagged sha headOf decF decode addR
theorem rpnew_spec (kind id n : Int) (seed : List UInt8) : PSpec Tryz.prog 13 [.int kind, .int id, .int n, .agg (dcells seed)] (encPE (newP kind id n seed)) := by
 have q1 := K.refNew_spec n
 have hok := newD_ok (n := n)
 obtain ⟨⟨d, e⟩, hd⟩ : ∃ d, d = K.newD n := ⟨_, rfl⟩
 have hN : newP kind id n seed = if kind < 1 ∨ 4 < kind ∨ id < 0 ∨ 16 ≤ id then (zeroP, 510) else if e = 0 then (⟨kind, id, seed, d, jr d, []⟩, 0) else (zeroP, e) := by unfold newP; rw [← hd]
 rw [hN]
 rw [← hd] at q1 hok
 dsimp only at hok
 have q2 := K.ropen_spec d
 refine PSpec.of_vc (fun Γ => more6 false Γ.P Γ.fx) (fun Γ => more6_ok) Tryz.func13 rfl Tryz.call13 (by simp) ?_
 rintro ⟨P, N, w0, X, β0, fx, y, hy, pk, df⟩ rfl rfl rfl hoff rfl; change y.on = false at hoff
 repeat' ((try conv => whnf); first|(first|refine k3 ?_ ?_|refine k4 ?_ ?_) <;> intro hb <;> (try rw [lM] at hb) <;> try (exfalso; omega)|refine aq rfl ?_|refine ⟨_, singles_rfl _, ?_⟩|fail)
 any_goals (refine sub_zeroP ?_; rw [if_pos (by omega)]; done)
 refine .inl ⟨_, q1, ?_⟩
 repeat' ((try conv => whnf); first|(first|refine k3 ?_ ?_|refine k4 ?_ ?_) <;> intro hb <;> (try rw [lM] at hb) <;> try (exfalso; omega)|refine aq rfl ?_|fail)
 · obtain ⟨h1, h2, h3⟩ := hok (by assumption)
   rw [open_run h1 h2 h3] at q2
   obtain ⟨z, hz⟩ : ∃ z : Int, z = 0 := ⟨_, rfl⟩
   rw [← hz] at q2
   have q2' : PSpec Tryz.prog 48 [K.encD d] (.tup [K.encJ (jr d), .int z]) := q2
   refine .inl ⟨_, q2', ?_⟩
   repeat' ((try conv => whnf); first|refine aq rfl ?_|refine .inr ⟨rfl, rfl, rfl, ?_⟩|fail)
   rw [if_neg (by omega), if_pos (by assumption)]
   exact PSub.tup ⟨PSub.agg ⟨PSub.refl _, PSub.refl _, sub_dc ⟨PSub.refl _, PSub.refl _, PSub.refl _, PSub.refl _, PSub.refl _, PSub.refl _, PSub.refl _, PSub.nil 37, trivial⟩⟩, PSub.refl _, trivial⟩
 · refine sub_zeroP ?_
   rw [if_neg (by omega), if_neg (by assumption)]
theorem rpcrash_spec (p : Party) (left : Int) : PSpec Tryz.prog 15 [.agg (encP p), .int left] (encPE (p.crash left)) := by
 have q1 := rpformed_spec p
 have q2 := K.refStop_spec p.disk left
 have hC : p.crash left = if p.formed then (if (p.disk.stop left).2 = 0 then ({ p with disk := (p.disk.stop left).1 }, 0) else (zeroP, (p.disk.stop left).2)) else (zeroP, 510) := rfl
 obtain ⟨⟨d, e⟩, hd⟩ : ∃ d, d = p.disk.stop left := ⟨_, rfl⟩
 rw [hC, ← hd]
 rw [← hd] at q2
 obtain ⟨b1, e1⟩ : ∃ b, b = decide p.formed := ⟨_, rfl⟩
 rw [← e1] at q1
 refine PSpec.of_vc (fun Γ => more6 false Γ.P Γ.fx) (fun Γ => more6_ok) Tryz.func15 rfl Tryz.call15 (by simp) ?_
 rintro ⟨P, N, w0, X, β0, fx, y, hy, pk, df⟩ rfl rfl rfl hoff rfl; change y.on = false at hoff
 skip
 refine .inl ⟨_, q1, ?_⟩
 repeat' ((try conv => whnf); first|refine k5 (fun hb => ?_) fun hb => ?_|refine aq rfl ?_|fail)
 · have hf : p.formed := of_decide_eq_true (by rw [← e1]; assumption)
   rw [if_pos hf]
   refine .inl ⟨_, q2, ?_⟩
   repeat' ((try conv => whnf); first|(first|refine k3 ?_ ?_|refine k4 ?_ ?_) <;> intro hb <;> (try rw [lM] at hb) <;> try (exfalso; omega)|refine aq rfl ?_|fail)
   · rw [if_pos (by assumption)]
     exact PSub.tup ⟨PSub.agg ⟨PSub.refl _, PSub.refl _, sub_dc (SubL.refl _)⟩, PSub.refl _, trivial⟩
   · refine sub_zeroP ?_
     rw [if_neg (by assumption)]
 · refine sub_zeroP ?_
   rw [if_neg (fun h => by rw [decide_eq_true h] at e1; simp_all)]
theorem rpcount_spec (p : Party) (kind : Int) (hl : p.log.length ≤ 1000000) : PSpec Tryz.prog 19 [.agg (encP p), .int kind] (.int (countL p.log kind)) := by
 refine PSpec.of_vc (fun Γ => more6 false Γ.P Γ.fx) (fun Γ => more6_ok) Tryz.func19 rfl Tryz.call19 (by simp) ?_
 rintro ⟨P, N, w0, X, β0, fx, y, hy, pk, df⟩ rfl rfl rfl hoff rfl; change y.on = false at hoff
 skip
 refine Wp.loop (fun k : Nat => ⟨[(1, .int kind), (2, .loc 2 0 0), (5, .int (countL (p.log.take k) kind)), (6, .int k)], [(2, boxP p)], [2]⟩) (fun k => k ≤ p.log.length) (fun k => p.log.length - k) 0 (Le.of ?_ ?_ rfl rfl rfl) (by omega) ?_
 · (repeat' (first|exact trivial|refine aq ?_ ?_|exact oq|fail))
 · (repeat' (first|exact trivial|refine aq ?_ ?_|refine Exists.intro _ (aq rfl ?_)|exact oq|fail))
 intro k hk
 have hc1 := countL_le (p.log.take k) kind
 rw [List.length_take] at hc1
 by_cases hk2 : k < p.log.length
 · have ht := countL_take (kind := kind) hk2
   refine code_sound (more := more6 false _ _) more6_ok FOK.wide _ ?_
   repeat' ((try conv => whnf); first|(first|refine k3 ?_ ?_|refine k4 ?_ ?_) <;> intro hb <;> (try rw [lM] at hb) <;> try (exfalso; omega)|refine s4 nm ?_|refine s5 nm nm ?_|fail)
   · exact ⟨k + 1, Le.of (by (repeat' (first|exact trivial|refine aq ?_ ?_|exact oq|fail)); all_goals exact SubA.int (by rw [ht, if_pos (by assumption)]; omega)) (by (repeat' (first|exact trivial|refine aq ?_ ?_|refine Exists.intro _ (aq rfl ?_)|exact oq|fail))) rfl rfl rfl, by omega, by omega⟩
   · exact ⟨k + 1, Le.of (by (repeat' (first|exact trivial|refine aq ?_ ?_|exact oq|fail)); all_goals exact SubA.int (by rw [ht, if_neg (by assumption)]; omega)) (by (repeat' (first|exact trivial|refine aq ?_ ?_|refine Exists.intro _ (aq rfl ?_)|exact oq|fail))) rfl rfl rfl, by omega, by omega⟩
 · have ek : k = p.log.length := by omega
   subst ek
   refine code_sound (more := more6 false _ _) more6_ok FOK.wide _ ?_
   repeat' ((try conv => whnf); first|(first|refine k3 ?_ ?_|refine k4 ?_ ?_) <;> intro hb <;> (try rw [lM] at hb) <;> try (exfalso; omega)|fail)
   exact PSub.val_int (by rw [List.take_length])
theorem rown_rows (l : List Rec) (id : Int) (hl : ∀ x ∈ l, x.can) (hlen : l.length ≤ 1000000) (rows : List (List PV)) (hr : rows = l.map encR) : PSpec Tryz.prog 44 [.sl 37 rows, .int id] (.bool (ownedB id l)) := by
 subst hr
 exact rpown_spec l id hl hlen
theorem rprestart_spec (p q : Party) (e : Int) (hR : RestIs p q e) : PSpec Tryz.prog 17 [.agg (encP p)] (encPE (q, e)) := by
 have q1 := rpformed_spec p
 have q2 := K.ropen_spec (rst p.disk)
 have q5 := K.refRestart_spec p.disk
 obtain ⟨b1, e1⟩ : ∃ b, b = decide p.formed := ⟨_, rfl⟩
 rw [← e1] at q1
 by_cases hf : p.formed
 rotate_left
 · have hr : (q, e) = (zeroP, 510) := by
     cases hR with
     | form => rfl
     | dec h => exact absurd h hf
     | own h => exact absurd h hf
     | ok h => exact absurd h hf
   have hb1 : b1 = false := by rw [e1]; exact decide_eq_false hf
   refine PSpec.of_vc (fun Γ => more6 false Γ.P Γ.fx) (fun Γ => more6_ok) Tryz.func17 rfl Tryz.call17 (by simp) ?_
   rintro ⟨P, N, w0, X, β0, fx, y, hy, pk, df⟩ rfl rfl rfl hoff rfl; change y.on = false at hoff
   skip
   refine .inl ⟨_, q1, ?_⟩
   repeat' ((try conv => whnf); first|refine k5 (fun hb => ?_) fun hb => ?_|refine aq rfl ?_|fail)
   · exact absurd hb1 (by simp_all)
   · exact sub_zeroP hr
 · have hb1 : b1 = true := by rw [e1]; exact decide_eq_true hf
   rw [open_rst hf.2.2] at q2
   have hlen := jr_len hf.2.2
   obtain ⟨J, hJ⟩ : ∃ J, J = jr p.disk := ⟨_, rfl⟩
   obtain ⟨z, hz⟩ : ∃ z : Int, z = 0 := ⟨_, rfl⟩
   rw [← hJ, ← hz] at q2
   rw [← hJ] at hlen
   have hrec : ∀ b ∈ J.records, b.length ≤ 800000 := by rw [hJ]; exact recs_len hf.2.2
   have hrec2 : ∀ b ∈ J.records, b.length ≤ 1000000 := fun b hb => by have := hrec b hb; omega
   have q2' : PSpec Tryz.prog 48 [K.encD (rst p.disk)] (.tup [K.encJ J, .int z]) := q2
   refine PSpec.of_vc (fun Γ => more6 false Γ.P Γ.fx) (fun Γ => more6_ok) Tryz.func17 rfl Tryz.call17 (by simp) ?_
   rintro ⟨P, N, w0, X, β0, fx, y, hy, pk, df⟩ rfl rfl rfl hoff rfl; change y.on = false at hoff
   skip
   refine .inl ⟨_, q1, ?_⟩
   repeat' ((try conv => whnf); first|refine k5 (fun hb => ?_) fun hb => ?_|refine aq rfl ?_|fail)
   rotate_left
   · exact absurd hb1 (by simp_all)
   refine .inl ⟨_, q5, ?_⟩
   repeat' ((try conv => whnf); first|refine aq rfl ?_|fail)
   refine .inl ⟨_, q2', ?_⟩
   repeat' ((try conv => whnf); first|(first|refine k3 ?_ ?_|refine k4 ?_ ?_) <;> intro hb <;> (try rw [lM] at hb) <;> try (exfalso; omega)|refine aq rfl ?_|refine aq bd ?_|fail)
   refine Wp.loop (fun k : Nat => ⟨[(1, .loc 1 0 0), (2, .loc 2 0 0), (4, .loc 4 0 0), (5, .loc 5 0 0), (7, .lsl 300 0 (J.records.take k).length), (8, .int k)], [(1, boxP p), (2, some (.box (pures zcells))), (4, some (.box (pures (diskC (rst p.disk))))), (5, some (.box (pures (jourC J)))), (300, some (.row 37 ((J.records.take k).map fun b => encR (decF b).1)))], [1, 2, 4, 5, 300]⟩)
     (fun k => k ≤ J.records.length ∧ ∀ j (h : j < J.records.length), j < k → (decF J.records[j]).2 = 0) (fun k => J.records.length - k) 0 (Le.map [(300, 27)] ?_ ?_ rfl rfl rfl rfl) ⟨by omega, fun j h hj => by omega⟩ ?_
   · (repeat' (first|exact trivial|refine aq ?_ ?_|exact oq|fail))
   · (repeat' (first|exact trivial|exact rfl|refine aq ?_ ?_|refine Exists.intro _ (aq rfl ?_)|exact oq|fail))
   rintro k ⟨hk, hok⟩
   by_cases hk2 : k < J.records.length
   · have q3 := rvDecode_spec J.records[k] (hrec _ (List.getElem_mem hk2)) _ _ (decF_is (hrec2 _ (List.getElem_mem hk2)))
     obtain ⟨⟨r, er⟩, hr⟩ : ∃ r, r = decF J.records[k] := ⟨_, rfl⟩
     rw [← hr] at q3
     dsimp only at q3
     refine code_sound (more := more6 false _ _) more6_ok FOK.wide _ ?_
     repeat' ((try conv => whnf); first|(first|refine k3 ?_ ?_|refine k4 ?_ ?_) <;> intro hb <;> (try rw [lM] at hb) <;> try (exfalso; omega)|refine s5 nm nm ?_|fail)
     refine .inl ⟨_, q3, ?_⟩
     repeat' ((try conv => whnf); first|(first|refine k3 ?_ ?_|refine k4 ?_ ?_) <;> intro hb <;> (try rw [lM] at hb) <;> try (exfalso; omega)|refine aq rfl ?_|refine s4 nm ?_|refine aq bd ?_|fail)
     · have hlt : (J.records.take k).length = k := by simp; omega
       refine ⟨k + 1, Le.map [(300, 51)] ?_ ?_ rfl rfl rfl rfl, ⟨by omega, ?_⟩, by omega⟩
       rotate_right
       · intro j h hj
         by_cases ej : j = k
         · subst ej; rw [← hr]; assumption
         · exact hok j h (by omega)
       all_goals (repeat' (first|exact trivial|refine aq ?_ ?_|refine Exists.intro _ (aq rfl ?_)|exact oq|exact SubA.lsl ls|fail))
       all_goals first
           | (refine SubA.lsl ?_; focus (simp; omega))
           | (refine rowEq ?_; focus (rw [List.take_succ_eq_append_getElem hk2, List.map_append, List.map_singleton, ← hr]; rfl))
           | (refine SubA.int ?_; omega)
     · refine sub_zeroP ?_
       subst hJ
       rw [hR.dec_eq hf hk2 hok (by rw [← hr]; assumption), ← hr]
   · have hall : ∀ j (hj : j < J.records.length), (decF J.records[j]).2 = 0 := fun j hj => hok j hj (by omega)
     have hend := hR.end_eq hf (by rw [← hJ]; exact hall)
     rw [← hJ] at hend
     obtain ⟨L, hL⟩ : ∃ L, L = J.records.map fun b => (decF b).1 := ⟨_, rfl⟩
     rw [← hL] at hend
     have hLc : ∀ x ∈ L, x.can := fun x hx => by
       rw [hL] at hx
       obtain ⟨b, hb', rfl⟩ := List.mem_map.1 hx
       obtain ⟨j, hj, rfl⟩ := List.getElem_of_mem hb'
       rcases dec_ok (decF_is (hrec2 _ (List.getElem_mem hj))) with ⟨_, h2, h3⟩ | ⟨h1, _⟩
       · refine ⟨h2, ?_⟩
         have := body_le (r := (decF J.records[j]).1)
         rw [h3] at this
         have := hrec _ (List.getElem_mem hj)
         omega
       · exact absurd (hall j hj) h1
     have hrows : ∀ n m, J.records.length ≤ n → J.records.length ≤ m → List.take n (List.drop 0 (List.map (fun b => encR (decF b).1) (List.take m J.records))) = L.map encR := fun n m hn hm => by
       rw [List.drop_zero, List.take_of_length_le (l := J.records) hm, List.take_of_length_le (by rw [List.length_map]; exact hn), hL, List.map_map]
       rfl
     have ek : k = J.records.length := by omega
     have q4 := rown_rows L p.id hLc (by rw [hL, List.length_map]; exact hlen)
     obtain ⟨ow, how⟩ : ∃ b, b = ownedB p.id L := ⟨_, rfl⟩
     rw [← how] at q4
     refine code_sound (more := more6 false _ _) more6_ok FOK.wide _ ?_
     repeat' ((try conv => whnf); first|(first|refine k3 ?_ ?_|refine k4 ?_ ?_) <;> intro hb <;> (try rw [lM] at hb) <;> try (exfalso; omega)|fail)
     refine .inl ⟨_, q4 _ (hrows _ _ (by rw [List.length_take]; omega) (by omega)), ?_⟩
     repeat' ((try conv => whnf); first|refine k5 (fun hb => ?_) fun hb => ?_|refine aq rfl ?_|fail)
     · rcases hend with ⟨_, h⟩ | ⟨ho, _⟩
       · rw [h]
         exact PSub.tup ⟨PSub.agg ⟨PSub.refl _, PSub.refl _, sub_dc ⟨PSub.refl _, PSub.refl _, PSub.refl _, PSub.refl _, PSub.refl _, PSub.refl _, PSub.refl _, sub_sl (hrows _ _ (by rw [List.length_take]; omega) (by omega)), trivial⟩⟩, PSub.refl _, trivial⟩
       · rw [ownedB_false ho] at how; simp_all
     · refine sub_zeroP ?_
       rcases hend with ⟨ho, _⟩ | ⟨_, h⟩
       · rw [ownedB_true ho] at how; simp_all
       · exact h
end Go.Proofs.YtjfjpnefohbobaaGreatDoor
