/- Parties: Note. Conditions: none. -/
import Derived.Test.YtjfjpnefohbobaaGreatDoorWd
import Derived.Test.YtjfjpnefohbobaaGreatDoorXd
set_option linter.unusedSimpArgs false
set_option linter.unusedVariables false
set_option maxRecDepth 20000
set_option maxHeartbeats 4000000
namespace Go.Proofs.YtjfjpnefohbobaaGreatDoor
open Go.Avc
theorem fits_ok {l : List Rec} {r : Rec} (h : Fits l r) (hp : r.prev.length = 32) : r.ok := by
 have h1 := h.no
 have h2 := h.many
 have h3 := h.party
 have h4 := h.kind
 have h5 := h.day
 exact ⟨⟨by omega, by omega⟩, ⟨by omega, by omega⟩, ⟨by omega, by omega⟩, ⟨by omega, by omega⟩, hp⟩
theorem enc_at {X : List Rec} {m : Rec} {r : PV} {i : Nat} (h : i < X.length) (hi : X[i] = m) (q : PSpec Tryz.prog 23 [.agg (encR m)] r) : PSpec Tryz.prog 23 [.agg (encR X[i])] r := by
 rw [hi]; exact q
attribute [local irreducible] PSub Wp PSpec Le Need Both
attribute [local irreducible] recE recD tagged sha headOf decF decode addR
theorem pnote_spec (p : Party) (kind day : Int) (body : List UInt8) (h : p.can) (hb0 : body.length ≤ 1000) : PSpec Tryz.prog 7 [.agg (encP p), .int kind, .int day, encB body] (encPE (p.note kind day body)) := by
 have q1 := pcheck_spec p h
 obtain ⟨c, hc⟩ : ∃ c, c = p.check := ⟨_, rfl⟩
 rw [← hc] at q1
 by_cases hv : p.valid
 rotate_left
 · have hn : p.note kind day body = (zeroP, 510) := by unfold Party.note; rw [if_neg hv]
   rw [hn]
   have hc5 : c = 510 := by rw [hc, check_not hv]
   refine PSpec.of_vc (fun Γ => more6 false Γ.P Γ.fx) (fun Γ => more6_ok) Tryz.func7 rfl Tryz.call7 (by simp) ?_
   rintro ⟨P, N, w0, X, β0, fx, y, hy, pk, df⟩ rfl rfl rfl hoff rfl; change y.on = false at hoff
   skip
   refine .inl ⟨_, q1, ?_⟩
   repeat' ((try conv => whnf); first|(first|refine k3 ?_ ?_|refine k4 ?_ ?_) <;> intro hb <;> (try rw [lM] at hb) <;> try (exfalso; omega)|refine aq rfl ?_|fail)
   exact sub_zeroP (by rw [hc5])
 · have hc0 : c = 0 := by rw [hc, check_valid hv]
   have q2 := evAdd_spec p.log p.id kind day body h.log h.len (by omega)
   obtain ⟨m, hm⟩ : ∃ m, m = mkR p.log p.id kind day body := ⟨_, rfl⟩
   have hN : p.note kind day body = (if (addR p.log m).2 = 0 then
     (if (p.jour.append (recE m)).2 = 0 then
       (if ((p.jour.append (recE m)).1.sync p.disk).2.2 = 0 then (⟨p.kind, p.id, p.seed, ((p.jour.append (recE m)).1.sync p.disk).2.1, ((p.jour.append (recE m)).1.sync p.disk).1, (addR p.log m).1⟩, 0)
       else if ((p.jour.append (recE m)).1.sync p.disk).2.2 = 470 then ((if 0 < ((p.jour.append (recE m)).1.sync p.disk).2.1.sectors.length then { p with disk := ((p.jour.append (recE m)).1.sync p.disk).2.1 } else p), 470)
       else (zeroP, ((p.jour.append (recE m)).1.sync p.disk).2.2))
     else (zeroP, (p.jour.append (recE m)).2))
     else (zeroP, (addR p.log m).2)) := by
     rw [hm]; unfold Party.note; rw [if_pos hv]
   rw [← hm] at q2
   have hac := addR_cases p.log m hv.owned.1
   have hml : (recE m).length ≤ 1110 ∨ ¬ m.ok := by
     by_cases hok : m.ok
     · have := recE_len hok (by rw [hm]; show body.length ≤ _; omega)
       left
       have hb1 : m.body.length = body.length := by rw [hm]; rfl
       omega
     · exact .inr hok
   have q3 := fun hok => evEncode_spec m hok (by rw [hm]; show body.length ≤ _; omega)
   have q4 := fun hb => K.append_spec p.jour (recE m) (by have := h.jour; omega) hb
   have haj := append_err p.jour (recE m) hv.good
   obtain ⟨⟨al, ae⟩, ha⟩ : ∃ a, a = addR p.log m := ⟨_, rfl⟩
   rw [← ha] at q2 hac hN
   obtain ⟨⟨j, je⟩, hj⟩ : ∃ a, a = p.jour.append (recE m) := ⟨_, rfl⟩
   rw [← hj] at q4 haj hN
   dsimp only at hN haj
   have q5 := K.jsync_spec j p.disk
   obtain ⟨⟨j2, d2, e2⟩, hs⟩ : ∃ a, a = j.sync p.disk := ⟨_, rfl⟩
   rw [← hs] at q5 hN
   dsimp only at hN
   rw [hN]
   refine PSpec.of_vc (fun Γ => more6 false Γ.P Γ.fx) (fun Γ => more6_ok) Tryz.func7 rfl Tryz.call7 (by simp) ?_
   rintro ⟨P, N, w0, X, β0, fx, y, hy, pk, df⟩ rfl rfl rfl hoff rfl; change y.on = false at hoff
   skip
   refine .inl ⟨_, q1, ?_⟩
   repeat' ((try conv => whnf); first|(first|refine k3 ?_ ?_|refine k4 ?_ ?_) <;> intro hb <;> (try rw [lM] at hb) <;> try (exfalso; omega)|fail)
   refine .inl ⟨_, q2, ?_⟩
   rcases hac with ⟨hac, hfit⟩ | ⟨e, hac, he, _⟩
   rotate_left
   · cases hac
     repeat' ((try conv => whnf); first|(first|refine k3 ?_ ?_|refine k4 ?_ ?_) <;> intro hb <;> (try rw [lM] at hb) <;> try (exfalso; omega)|refine aq rfl ?_|fail)
     refine sub_zeroP ?_
     rw [if_neg (by omega)]
   · cases hac
     have hok := fits_ok hfit (by rw [hm]; exact mkR_len _ _ _ _ _)
     obtain ⟨X, hX⟩ : ∃ X, X = p.log ++ [m] := ⟨_, rfl⟩
     obtain ⟨z, hz⟩ : ∃ z : Int, z = 0 := ⟨_, rfl⟩
     have hXl : X.length = p.log.length + 1 := by rw [hX]; simp
     have hlen := h.len
     have hXi : ∀ i (hi : i < X.length), i = p.log.length → X[i] = m := fun i hi e => by subst e; simp [hX]
     rw [← hX]
     have q3' : PSpec Tryz.prog 23 [.agg (encR m)] (.tup [encB (recE m), .int z]) := by rw [hz]; exact q3 hok
     have hml' : (recE m).length ≤ 1110 := by
       rcases hml with h | h
       · exact h
       · exact absurd hok h
     repeat' ((try conv => whnf); first|refine aq rfl ?_|refine s4 nm ?_|refine s6 nm nm ?_|fail)
     refine .inl ⟨_, enc_at (X := X) _ (hXi _ _ (by simp only [List.length_map]; omega)) q3', ?_⟩
     repeat' ((try conv => whnf); first|(first|refine k3 ?_ ?_|refine k4 ?_ ?_) <;> intro hb <;> (try rw [lM] at hb) <;> try (exfalso; omega)|refine aq rfl ?_|fail)
     rcases haj with ⟨h1, h2, h3⟩ | h1
     rotate_left
     · refine .inl ⟨_, q4 (by omega), ?_⟩
       repeat' ((try conv => whnf); first|(first|refine k3 ?_ ?_|refine k4 ?_ ?_) <;> intro hb <;> (try rw [lM] at hb) <;> try (exfalso; omega)|refine aq rfl ?_|fail)
       refine sub_zeroP ?_
       rw [if_pos rfl, if_neg (by omega)]
     · have hln : K.lensN j.records ≤ 100000 := by
         rw [h2]
         have := h.jour
         simp only [K.lensN, List.map_append, List.sum_append, List.map_cons, List.map_nil, List.sum_cons, List.sum_nil] at this ⊢
         omega
       refine .inl ⟨_, q4 (by omega), ?_⟩
       repeat' ((try conv => whnf); first|(first|refine k3 ?_ ?_|refine k4 ?_ ?_) <;> intro hb <;> (try rw [lM] at hb) <;> try (exfalso; omega)|refine aq rfl ?_|fail)
       refine .inl ⟨_, q5 hln, ?_⟩
       repeat' ((try conv => whnf); first|(first|refine k3 ?_ ?_|refine k4 ?_ ?_) <;> intro hb <;> (try rw [lM] at hb) <;> try (exfalso; omega)|refine aq rfl ?_|fail)
       · refine Wp.draw (more := more6 true _ _) more6_det more6_ok FOK.wide rfl (by decide +kernel) (by conv => lhs; reduce) ?_
         repeat' ((try conv => whnf); first|refine aq rfl ?_|fail)
         rw [if_pos rfl, if_pos (by omega), if_pos (by assumption)]
         exact PSub.tup ⟨PSub.agg ⟨PSub.refl _, PSub.refl _, sub_dc (SubL.refl _)⟩, PSub.val_int (by assumption), trivial⟩
       · rw [if_pos rfl, if_pos (by omega), if_neg (by assumption), if_pos (by assumption), if_pos (Int.ofNat_lt.1 (by assumption))]
         exact PSub.tup ⟨PSub.agg ⟨PSub.refl _, PSub.refl _, sub_dc (SubL.refl _)⟩, PSub.val_int (by assumption), trivial⟩
       · rw [if_pos rfl, if_pos (by omega), if_neg (by assumption), if_pos (by assumption), if_neg (fun h => absurd (Int.ofNat_lt.2 h) (by assumption))]
         exact PSub.tup ⟨PSub.agg ⟨PSub.refl _, PSub.refl _, sub_dc (SubL.refl _)⟩, PSub.val_int (by assumption), trivial⟩
       · refine sub_zeroP ?_
         rw [if_pos rfl, if_pos (by omega), if_neg (by assumption), if_neg (by assumption)]
end Go.Proofs.YtjfjpnefohbobaaGreatDoor
/- Parties: the reference's Same and Few. Conditions: none. -/
namespace Go.Proofs.YtjfjpnefohbobaaGreatDoor
open Go.Avc
open Classical in
noncomputable def sameP (a b : Party) : Bool := decide (a = b)
theorem sameP_true {a b : Party} (h : a = b) : sameP a b = true := by unfold sameP; simp [h]
theorem sameP_false {a b : Party} (h : a ≠ b) : sameP a b = false := by unfold sameP; simp [h]
theorem Party.ext' {a b : Party} (h1 : a.kind = b.kind) (h2 : a.id = b.id) (h3 : a.seed = b.seed) (h4 : a.disk = b.disk) (h5 : a.jour = b.jour) (h6 : a.log = b.log) : a = b := by
 cases a; cases b; simp_all
def wsum (l : List (List UInt8)) : Int := l.foldl (fun n b => IntKind.i64.wrap (n + (b.length : Int))) 0
theorem wsum_take {l : List (List UInt8)} {k : Nat} (h : k < l.length) : wsum (l.take (k + 1)) = IntKind.i64.wrap (wsum (l.take k) + (l[k].length : Int)) := by
 unfold wsum
 rw [List.take_succ_eq_append_getElem h, List.foldl_append]
 rfl
theorem wsum_eq (l : List (List UInt8)) (hl : l.length ≤ 1000) (hb : ∀ b ∈ l, b.length ≤ 140737488355328) : ∀ k, k ≤ l.length → wsum (l.take k) = ((l.take k).map fun b => b.length).sum ∧ ((l.take k).map fun b => b.length).sum ≤ k * 140737488355328
 | 0, _ => by simp [wsum]
 | k + 1, h => by
   obtain ⟨h1, h2⟩ := wsum_eq l hl hb k (by omega)
   have h3 := hb _ (List.getElem_mem (show k < l.length by omega))
   rw [wsum_take (by omega), h1, List.take_succ_eq_append_getElem (show k < l.length by omega), List.map_append, List.sum_append, IntKind.wrap_i64]
   simp only [List.map_cons, List.map_nil, List.sum_cons, List.sum_nil]
   constructor <;> omega
def jfewB (j : K.Jour) : Bool := decide (j.many ≤ 100) && (decide ((j.records.length : Int) ≤ 100) && decide (wsum j.records ≤ 12000))
theorem jfew_of {j : K.Jour} (hb : ∀ b ∈ j.records, b.length ≤ 140737488355328) (h : jfewB j = true) : K.lensN j.records ≤ 13000 := by
 simp only [jfewB, Bool.and_eq_true, decide_eq_true_eq] at h
 obtain ⟨_, h1, h2⟩ := h
 have h3 := (wsum_eq j.records (by omega) hb _ (Nat.le_refl _)).1
 rw [List.take_length] at h3
 have h4 : ∀ l : List (List UInt8), K.lensN l = (l.map fun b => b.length).sum + l.length := by
   intro l
   induction l with
   | nil => rfl
   | cons x l ih => simp only [K.lensN, List.map_cons, List.sum_cons, List.length_cons] at ih ⊢; omega
 rw [h4]
 omega
def fewP (p : Party) : Bool := decide ((p.disk.sectors.length : Int) ≤ 60) && (decide ((p.disk.pending.length : Int) ≤ 60) && (jfewB p.jour && fewR p.log))
attribute [local irreducible] PSub Wp PSpec Le Need Both
attribute [local irreducible] recE recD tagged sha headOf decF decode addR
theorem rjfew_spec (j : K.Jour) : PSpec Tryz.prog 20 [K.encJ j] (.bool (jfewB j)) := by
 refine PSpec.bd Tryz.call20 fun hbd => ?_
 have hb1 : j.records.length ≤ 9223372036854775807 := by
   have := hbd.1
   simp only [K.encJ, K.encS, PV.bd, bdL, List.length_map] at this
   exact this.1.1
 refine PSpec.of_vc (fun Γ => more6 false Γ.P Γ.fx) (fun Γ => more6_ok) Tryz.func20 rfl Tryz.call20 (by simp) ?_
 rintro ⟨P, N, w0, X, β0, fx, y, hy, pk, df⟩ rfl rfl rfl hoff rfl; change y.on = false at hoff
 skip
 refine Wp.loop (fun k : Nat => ⟨[(1, .loc 1 0 0), (3, .int (wsum (j.records.take k))), (4, .int k)], [(1, some (.box (pures (jourC j))))], [1]⟩) (fun k => k ≤ j.records.length) (fun k => j.records.length - k) 0 (Le.of ?_ ?_ rfl rfl rfl) (by omega) ?_
 · (repeat' (first|exact trivial|refine aq ?_ ?_|exact oq|fail))
 · (repeat' (first|exact trivial|refine aq ?_ ?_|refine Exists.intro _ (aq rfl ?_)|exact oq|fail))
 intro k hk
 by_cases hk2 : k < j.records.length
 · have ht := wsum_take hk2
   refine code_sound (more := more6 false _ _) more6_ok FOK.wide _ ?_
   repeat' ((try conv => whnf); first|(first|refine k3 ?_ ?_|refine k4 ?_ ?_) <;> intro hb <;> (try rw [lM] at hb) <;> try (exfalso; omega)|refine s5 nm nm ?_|fail)
   refine ⟨wsum (j.records.take (k + 1)), by rw [ht, List.length_map], ?_⟩
   repeat' ((try conv => whnf); first|refine s4 nm ?_|fail)
   exact ⟨k + 1, Le.of (by (repeat' (first|exact trivial|refine aq ?_ ?_|exact oq|fail))) (by (repeat' (first|exact trivial|refine aq ?_ ?_|refine Exists.intro _ (aq rfl ?_)|exact oq|fail))) rfl rfl rfl, by omega, by omega⟩
 · have ek : k = j.records.length := by omega
   subst ek
   rw [List.take_length]
   refine code_sound (more := more6 false _ _) more6_ok FOK.wide _ ?_
   repeat' ((try conv => whnf); first|(first|refine k3 ?_ ?_|refine k4 ?_ ?_) <;> intro hb <;> (try rw [lM] at hb) <;> try (exfalso; omega)|fail)
   all_goals exact PSub.val_bool (by simp [jfewB, *])
theorem rsameP_spec (a b : Party) (ha : a.seed.length = 32) (hb0 : b.seed.length = 32) (hj : a.jour.records.length ≤ 1000000) (hla : ∀ r ∈ a.log, r.prev.length = 32) (hlb : ∀ r ∈ b.log, r.prev.length = 32) : PSpec Tryz.prog 9 [.agg (encP a), .agg (encP b)] (.bool (sameP a b)) := by
 have q1 := digEq a.seed b.seed ha hb0
 have q2 := K.same_spec a.disk b.disk
 have q3 := K.jsame_spec a.jour b.jour hj
 have q4 := rvSameL_spec a.log b.log hla hlb
 obtain ⟨c1, e1⟩ : ∃ c, c = decide (a.seed = b.seed) := ⟨_, rfl⟩
 obtain ⟨c2, e2⟩ : ∃ c, c = a.disk.same b.disk := ⟨_, rfl⟩
 obtain ⟨c3, e3⟩ : ∃ c, c = a.jour.same b.jour := ⟨_, rfl⟩
 obtain ⟨c4, e4⟩ : ∃ c, c = sameL2 a.log b.log := ⟨_, rfl⟩
 have i1 : c1 = true ↔ a.seed = b.seed := by rw [e1]; exact decide_eq_true_iff
 have i2 : c2 = true ↔ a.disk = b.disk := by rw [e2]; exact decide_eq_true_iff
 have i3 : c3 = true ↔ a.jour = b.jour := by rw [e3]; exact ⟨same_eq, fun h => by rw [h]; exact same_refl _⟩
 have i4 : c4 = true ↔ a.log = b.log := by rw [e4]; unfold sameL2; simp
 rw [← e1] at q1
 rw [← e2] at q2
 rw [← e3] at q3
 rw [← e4] at q4
 clear e1 e2 e3 e4
 refine PSpec.of_vc (fun Γ => more6 false Γ.P Γ.fx) (fun Γ => more6_ok) Tryz.func9 rfl Tryz.call9 (by simp) ?_
 rintro ⟨P, N, w0, X, β0, fx, y, hy, pk, df⟩ rfl rfl rfl hoff rfl; change y.on = false at hoff
 repeat' ((try conv => whnf); first|(first|refine k3 ?_ ?_|refine k4 ?_ ?_) <;> intro hb <;> (try rw [lM] at hb) <;> try (exfalso; omega)|fail)
 any_goals (refine PSub.val_bool (sameP_false (fun h => ?_)).symm; subst h; exact absurd rfl (by assumption))
 refine ⟨_, q1, isAg, isAg, ?_⟩
 repeat' ((try conv => whnf); first|refine k6 (fun hb => ?_) fun hb => ?_|fail)
 rotate_left
 · exact PSub.val_bool (sameP_false (fun h => by subst h; simp_all)).symm
 refine .inl ⟨_, q2, ?_⟩
 repeat' ((try conv => whnf); first|refine k6 (fun hb => ?_) fun hb => ?_|fail)
 rotate_left
 · exact PSub.val_bool (sameP_false (fun h => by subst h; simp_all)).symm
 refine .inl ⟨_, q3, ?_⟩
 repeat' ((try conv => whnf); first|refine k6 (fun hb => ?_) fun hb => ?_|fail)
 rotate_left
 · exact PSub.val_bool (sameP_false (fun h => by subst h; simp_all)).symm
 refine .inl ⟨_, q4, ?_⟩
 skip
 refine PSub.val_bool ?_
 cases hc4 : c4 with
 | true => rw [sameP_true (Party.ext' (by assumption) (by assumption) (i1.1 (by assumption)) (i2.1 (by assumption)) (i3.1 (by assumption)) (i4.1 hc4))]
 | false => rw [sameP_false (fun h => by subst h; simp_all)]
theorem rfewP_spec (p : Party) : PSpec Tryz.prog 6 [.agg (encP p)] (.bool (fewP p)) := by
 have q1 := rjfew_spec p.jour
 have q2 := rvFew_spec p.log
 obtain ⟨c1, e1⟩ : ∃ c, c = jfewB p.jour := ⟨_, rfl⟩
 obtain ⟨c2, e2⟩ : ∃ c, c = fewR p.log := ⟨_, rfl⟩
 unfold fewP
 rw [← e1] at q1 ⊢
 rw [← e2] at q2 ⊢
 clear e1 e2
 refine PSpec.of_vc (fun Γ => more6 false Γ.P Γ.fx) (fun Γ => more6_ok) Tryz.func6 rfl Tryz.call6 (by simp) ?_
 rintro ⟨P, N, w0, X, β0, fx, y, hy, pk, df⟩ rfl rfl rfl hoff rfl; change y.on = false at hoff
 repeat' ((try conv => whnf); first|(first|refine k3 ?_ ?_|refine k4 ?_ ?_) <;> intro hb <;> (try rw [lM] at hb) <;> try (exfalso; omega)|fail)
 · refine .inl ⟨_, q1, ?_⟩
   repeat' ((try conv => whnf); first|refine k6 (fun hb => ?_) fun hb => ?_|fail)
   · refine .inl ⟨_, q2, ?_⟩
     skip
     exact PSub.val_bool (by simp [*])
   all_goals exact PSub.val_bool (by simp [*])
 all_goals exact PSub.val_bool (by simp [*])
end Go.Proofs.YtjfjpnefohbobaaGreatDoor
/- Parties: the chapter's examples, facts. Conditions: none. -/
namespace Go.Proofs.YtjfjpnefohbobaaGreatDoor
open Go.Avc
theorem noteE_zero {p : Party} {kind day : Int} {body : List UInt8} (hv : p.valid) (hf : Fits p.log (mkR p.log p.id kind day body)) (ha : K.occN p.jour.records + K.piecesN (recE (mkR p.log p.id kind day body)).length ≤ p.jour.many) (hg : K.greatL p.disk.sectors ≠ 4294967295) : p.noteE kind day body = 0 := by
 have h1 := addR_yes hv.owned.1 (by have := hf.many; omega) hf
 rcases append_err p.jour (recE (mkR p.log p.id kind day body)) hv.good with ⟨h2, _, _⟩ | h2
 · unfold Party.noteE
   rw [h1]
   simp [h2, hg]
 · unfold K.Jour.append at h2
   rw [if_pos hv.good, if_neg (by omega)] at h2
   exact absurd h2 (by simp)
theorem pieces_one {n : Nat} (h : n ≤ 112) : K.piecesN n = 1 := by unfold K.piecesN; omega
def seed5 : List UInt8 := 5 :: List.replicate 31 0
def pA : Party := ⟨4, 3, seed5, (K.newD 12).1, jr (K.newD 12).1, []⟩
theorem pA_new : newP 4 3 12 seed5 = (pA, 0) := by
 unfold newP
 rw [if_neg (by decide), if_pos (by decide)]
 rfl
theorem p0_new : newP 0 0 8 z32 = (zeroP, 510) := by unfold newP; rw [if_pos (by decide)]
theorem p1_new : newP 1 16 8 z32 = (zeroP, 510) := by unfold newP; rw [if_pos (by decide)]
theorem pA_inv : K.InvD pA.disk [] 0 := K.new_inv (n := 12) (by decide) (by decide)
theorem pA_recs : K.recs pA.disk.sectors = [] := pA_inv.inv.recs
theorem jr_records (d : K.Disk) : (jr d).records = K.recs d.sectors := rfl
theorem pA_jour : pA.jour = jr pA.disk := rfl
theorem pA_recs2 : pA.jour.records = [] := by rw [pA_jour, jr_records, pA_recs]
theorem pA_valid : pA.valid := valid_of ⟨by decide, by decide, disk_check pA_inv⟩ ⟨valid_nil, .inl rfl⟩ pA_jour (pA_recs2.trans rfl) (.inr pA_inv.pend)
theorem pA_many : pA.jour.many = 12 := by decide
theorem pA_can : pA.can := ⟨(by intro x h; cases h), by decide, by rw [pA_recs2]; decide, rfl⟩
def mA : Rec := mkR [] 3 5 7 [97, 98]
def mB : Rec := mkR [mA] 3 5 8 []
theorem fitA : Fits [] mA := ⟨by decide, rfl, by decide, by decide, by decide, by decide, rfl, .inl rfl⟩
theorem fitB : Fits [mA] mB := ⟨by decide, rfl, by decide, by decide, by decide, by decide, rfl, .inr (by decide)⟩
theorem mA_ok : mA.ok := fits_ok fitA (headOf_len [])
theorem mB_ok : mB.ok := fits_ok fitB (headOf_len [mA])
theorem mA_len : (recE mA).length ≤ 112 := (recE_len mA_ok (by decide)).1
theorem mB_len : (recE mB).length ≤ 112 := by have := (recE_len mB_ok (by decide)).1; have : mB.body.length = 0 := rfl; omega
theorem occ_one (b : List UInt8) : K.occN [b] = K.piecesN b.length := by simp [K.occN]
theorem examples {p : Party} (hv : p.valid) (hI : K.InvD p.disk [] 0) (hl : p.log = []) (hid : p.id = 3) (hr : p.jour.records = []) (hm : p.jour.many = 12) (hleft : p.disk.left = -1) : ∃ (a c : Party) (d1 d2 : K.Disk), p.note 5 7 [97, 98] = (a, 0) ∧ a = p.plus d1 mA ∧ a.valid ∧ rst d1 = d1 ∧
   a.crash 0 = ({ a with disk := { d1 with left := 0 } }, 0) ∧ ({ a with disk := { d1 with left := 0 } } : Party).valid ∧
   ({ a with disk := { d1 with left := 0 } } : Party).note 5 8 [] = (c, 470) ∧ c = { a with disk := d2 } ∧ c.valid ∧ d2.stopped = true := by
 have hmk : mkR p.log p.id 5 7 [97, 98] = mA := by rw [hl, hid]; rfl
 have hz : p.noteE 5 7 [97, 98] = 0 := noteE_zero hv (by rw [hmk, hl]; exact fitA) (by rw [hmk, hr, hm, pieces_one mA_len]; decide) (by rw [hI.inv.great]; decide)
 rcases note_run hv hI.run 5 7 [97, 98] with ⟨h, _⟩ | ⟨_, _, ⟨d1, h1, h2, h3, h4, _, h5⟩ | ⟨h, _⟩⟩
 · exact absurd hz h
 rotate_left
 · exact absurd hleft h
 rw [hmk] at h1 h2
 rw [hI.inv.great] at h5
 have h4 := h4 hleft
 obtain ⟨a, ha⟩ : ∃ a, a = p.plus d1 mA := ⟨_, rfl⟩
 rw [← ha] at h1 h2
 have hd : a.disk = d1 := by rw [ha]; rfl
 have hal : a.log = [mA] := by rw [ha]; show p.log ++ [mA] = _; rw [hl]; rfl
 have har : a.jour.records = [recE mA] := by rw [ha]; show p.jour.records ++ [recE mA] = _; rw [hr]; rfl
 have ham : a.jour.many = 12 := by rw [ha]; exact hm
 have hai : a.id = 3 := by rw [ha]; exact hid
 have hp1 : d1.pending = [] := by rw [← hd]; exact running h2 (by rw [hd]; exact h3)
 have hr1 : rst d1 = d1 := by cases d1; simp_all [rst]
 have hg1 : d1.good := by rw [← hd]; exact good_of h2.formed.2.2
 have hg2 : ({ d1 with left := 0 } : K.Disk).good := ⟨hg1.1, hg1.2.1, hg1.2.2.1, by simp, by simp, hg1.2.2.2.2.2.1, hg1.2.2.2.2.2.2⟩
 obtain ⟨T, hTd⟩ : ∃ T : Party, T = { a with disk := { d1 with left := 0 } } := ⟨_, rfl⟩
 have hT : T.valid := by
   rw [hTd]
   refine valid_of ⟨h2.formed.1, h2.formed.2.1, K.check_good hg2⟩ h2.owned ?_ h2.written (.inr hp1)
   show a.jour = _
   rw [h2.jr, hd]
   rfl
 have hTk : mkR T.log T.id 5 8 [] = mB := by rw [hTd]; show mkR a.log a.id 5 8 [] = _; rw [hal, hai]; rfl
 have hTl : T.log = [mA] := by rw [hTd]; exact hal
 have hz2 : T.noteE 5 8 [] = 0 := noteE_zero hT (by rw [hTk, hTl]; exact fitB) (by
   rw [hTk, hTd]
   show ((K.occN a.jour.records + K.piecesN (recE mB).length : Nat) : Int) ≤ a.jour.many
   rw [har, ham, occ_one, pieces_one mA_len, pieces_one mB_len]; decide) (by rw [hTd]; show K.greatL d1.sectors ≠ _; omega)
 have hTs : T.disk.stopped = false := by rw [hTd]; exact h3
 have hTl0 : T.disk.left = 0 := by rw [hTd]
 rcases note_run hT hTs 5 8 [] with ⟨h, _⟩ | ⟨_, _, ⟨_, _, _, _, _, h, _⟩ | ⟨_, d2, g1, g2, g3, _⟩⟩
 · exact absurd hz2 h
 · rw [hTl0] at h; exact absurd h (by decide)
 have hcd : ({ T with disk := d2 } : Party) = { a with disk := d2 } := by rw [hTd]
 rw [hcd] at g1 g2
 refine ⟨a, _, d1, d2, h1, ha, h2, hr1, ?_, by rw [← hTd]; exact hT, by rw [← hTd]; exact g1, rfl, g2, g3⟩
 have hrd : a.disk.ready = 0 := by
   unfold K.Disk.ready
   rw [hd]
   exact if_pos ⟨hg1, h3⟩
 have hs : a.disk.stop 0 = ({ a.disk with left := 0 }, 0) := by
   unfold K.Disk.stop
   rw [if_pos hrd, if_neg (by decide)]
 unfold Party.crash
 rw [if_pos h2.formed, hs, if_pos rfl, hd]
end Go.Proofs.YtjfjpnefohbobaaGreatDoor
