/- Parties: the reference's Note; the laws that compare. Conditions: none. -/
import Derived.Test.YtjfjpnefohbobaaGreatDoorWd
import Derived.Test.YtjfjpnefohbobaaGreatDoorXl
import Derived.Test.YtjfjpnefohbobaaGreatDoorXe
import Derived.Test.YtjfjpnefohbobaaGreatDoorXg
set_option linter.unusedSimpArgs false
set_option linter.unusedVariables false
set_option maxRecDepth 20000
set_option maxHeartbeats 4000000
namespace Go.Proofs.YtjfjpnefohbobaaGreatDoor
open Go.Avc
theorem renc_at {X : List Rec} {m : Rec} {r : PV} {i : Nat} (h : i < X.length) (hi : X[i] = m) (q : PSpec Tryz.prog 27 [.agg (encR m)] r) : PSpec Tryz.prog 27 [.agg (encR X[i])] r := by
 rw [hi]; exact q
attribute [local irreducible] PSub Wp PSpec Le Need Both
attribute [local irreducible] recE recD tagged sha headOf decF decode addR
theorem rpnote_spec (p : Party) (kind day : Int) (body : List UInt8) (h : p.can) (hb0 : body.length ≤ 1000) : PSpec Tryz.prog 8 [.agg (encP p), .int kind, .int day, encB body] (encPE (p.note kind day body)) := by
 have q1 := rchk_spec p h
 obtain ⟨c, hc⟩ : ∃ c, c = p.check := ⟨_, rfl⟩
 rw [← hc] at q1
 by_cases hv : p.valid
 rotate_left
 · have hn : p.note kind day body = (zeroP, 510) := by unfold Party.note; rw [if_neg hv]
   rw [hn]
   have hc5 : c = 510 := by rw [hc, check_not hv]
   refine PSpec.of_vc (fun Γ => more6 false Γ.P Γ.fx) (fun Γ => more6_ok) Tryz.func8 rfl Tryz.call8 (by simp) ?_
   rintro ⟨P, N, w0, X, β0, fx, y, hy, pk, df⟩ rfl rfl rfl hoff rfl; change y.on = false at hoff
   skip
   refine .inl ⟨_, q1, ?_⟩
   repeat' ((try conv => whnf); first | (first | refine k3 ?_ ?_ | refine k4 ?_ ?_) <;> intro hb <;> (try rw [lM] at hb) <;> try (exfalso; omega) | refine aq rfl ?_ | fail)
   exact sub_zeroP rfl
 · have hc0 : c = 0 := by rw [hc, check_valid hv]
   have q2 := rvAdd_spec p.log p.id kind day body h.log (by have := h.len; omega)
   obtain ⟨m, hm⟩ : ∃ m, m = mkR p.log p.id kind day body := ⟨_, rfl⟩
   have hN : p.note kind day body = (if (addR p.log m).2 = 0 then
     (if (p.jour.append (recE m)).2 = 0 then
       (if ((p.jour.append (recE m)).1.sync p.disk).2.2 = 0 then (⟨p.kind, p.id, p.seed, ((p.jour.append (recE m)).1.sync p.disk).2.1, ((p.jour.append (recE m)).1.sync p.disk).1, (addR p.log m).1⟩, 0)
       else if ((p.jour.append (recE m)).1.sync p.disk).2.2 = 470 then ((if 0 < ((p.jour.append (recE m)).1.sync p.disk).2.1.sectors.length then { p with disk := ((p.jour.append (recE m)).1.sync p.disk).2.1 } else p), 470)
       else (zeroP, ((p.jour.append (recE m)).1.sync p.disk).2.2))
     else (zeroP, (p.jour.append (recE m)).2))
     else (zeroP, (addR p.log m).2)) := by
     rw [hm]; unfold Party.note; rw [if_pos hv]
   rw [← hm] at q2
   have hac := addR_cases p.log m hv.owned.1
   have hml : (recE m).length ≤ 1110 ∨ ¬ m.ok := by
     by_cases hok : m.ok
     · have := recE_len hok (by rw [hm]; show body.length ≤ _; omega)
       left
       have hb1 : m.body.length = body.length := by rw [hm]; rfl
       omega
     · exact .inr hok
   have q3 := fun hok => rvEncode_spec m hok (by rw [hm]; show body.length ≤ _; omega)
   have q4 := fun hb => K.rappend_spec p.jour (recE m) (by have := h.jour; omega) hb
   have haj := append_err p.jour (recE m) hv.good
   obtain ⟨⟨al, ae⟩, ha⟩ : ∃ a, a = addR p.log m := ⟨_, rfl⟩
   rw [← ha] at q2 hac hN
   obtain ⟨⟨j, je⟩, hj⟩ : ∃ a, a = p.jour.append (recE m) := ⟨_, rfl⟩
   rw [← hj] at q4 haj hN
   dsimp only at hN haj
   have q5 := fun hl => K.rsync_spec j p.disk hl
   obtain ⟨⟨j2, d2, e2⟩, hs⟩ : ∃ a, a = j.sync p.disk := ⟨_, rfl⟩
   rw [← hs] at q5 hN
   dsimp only at hN
   rw [hN]
   refine PSpec.of_vc (fun Γ => more6 false Γ.P Γ.fx) (fun Γ => more6_ok) Tryz.func8 rfl Tryz.call8 (by simp) ?_
   rintro ⟨P, N, w0, X, β0, fx, y, hy, pk, df⟩ rfl rfl rfl hoff rfl; change y.on = false at hoff
   skip
   refine .inl ⟨_, q1, ?_⟩
   repeat' ((try conv => whnf); first | (first | refine k3 ?_ ?_ | refine k4 ?_ ?_) <;> intro hb <;> (try rw [lM] at hb) <;> try (exfalso; omega) | fail)
   refine .inl ⟨_, q2, ?_⟩
   rcases hac with ⟨hac, hfit⟩ | ⟨e, hac, he, _⟩
   rotate_left
   · cases hac
     repeat' ((try conv => whnf); first | (first | refine k3 ?_ ?_ | refine k4 ?_ ?_) <;> intro hb <;> (try rw [lM] at hb) <;> try (exfalso; omega) | refine aq rfl ?_ | fail)
     refine sub_zeroP ?_
     rw [if_neg (by omega)]
   · cases hac
     have hok := fits_ok hfit (by rw [hm]; exact mkR_len _ _ _ _ _)
     obtain ⟨X, hX⟩ : ∃ X, X = p.log ++ [m] := ⟨_, rfl⟩
     obtain ⟨z, hz⟩ : ∃ z : Int, z = 0 := ⟨_, rfl⟩
     have hXl : X.length = p.log.length + 1 := by rw [hX]; simp
     have hlen := h.len
     have hXi : ∀ i (hi : i < X.length), i = p.log.length → X[i] = m := fun i hi e => by subst e; simp [hX]
     rw [← hX]
     have q3' : PSpec Tryz.prog 27 [.agg (encR m)] (.tup [encB (recE m), .int z]) := by rw [hz]; exact q3 hok
     have hml' : (recE m).length ≤ 1110 := by
       rcases hml with h | h
       · exact h
       · exact absurd hok h
     repeat' ((try conv => whnf); first | refine aq rfl ?_ | refine s4 nm ?_ | refine s6 nm nm ?_ | fail)
     refine .inl ⟨_, renc_at (X := X) _ (hXi _ _ (by simp only [List.length_map]; omega)) q3', ?_⟩
     repeat' ((try conv => whnf); first | refine aq rfl ?_ | fail)
     rcases haj with ⟨h1, h2, h3⟩ | h1
     rotate_left
     · refine .inl ⟨_, q4 (by omega), ?_⟩
       repeat' ((try conv => whnf); first | (first | refine k3 ?_ ?_ | refine k4 ?_ ?_) <;> intro hb <;> (try rw [lM] at hb) <;> try (exfalso; omega) | refine aq rfl ?_ | fail)
       refine sub_zeroP ?_
       rw [if_pos rfl, if_neg (by omega)]
     · have hln : K.lensN j.records ≤ 100000 := by
         rw [h2]
         have := h.jour
         simp only [K.lensN, List.map_append, List.sum_append, List.map_cons, List.map_nil, List.sum_cons, List.sum_nil] at this ⊢
         omega
       refine .inl ⟨_, q4 (by omega), ?_⟩
       repeat' ((try conv => whnf); first | (first | refine k3 ?_ ?_ | refine k4 ?_ ?_) <;> intro hb <;> (try rw [lM] at hb) <;> try (exfalso; omega) | refine aq rfl ?_ | fail)
       refine .inl ⟨_, q5 hln, ?_⟩
       repeat' ((try conv => whnf); first | (first | refine k3 ?_ ?_ | refine k4 ?_ ?_) <;> intro hb <;> (try rw [lM] at hb) <;> try (exfalso; omega) | refine aq rfl ?_ | fail)
       all_goals first
         | (rw [if_pos rfl, if_pos (by omega), if_neg (show ¬ e2 = 0 from fun h0 => by have h470 : e2 = 470 := (by assumption); omega), if_pos (by assumption), if_pos (Int.ofNat_lt.1 (by assumption))]
            exact PSub.tup ⟨PSub.agg ⟨PSub.refl _, PSub.refl _, sub_dc (SubL.refl _)⟩, PSub.val_int (by assumption), trivial⟩)
         | (rw [if_pos rfl, if_pos (by omega), if_neg (show ¬ e2 = 0 from fun h0 => by have h470 : e2 = 470 := (by assumption); omega), if_pos (by assumption), if_neg (fun h => absurd (Int.ofNat_lt.2 h) (by assumption))]
            exact PSub.tup ⟨PSub.agg ⟨PSub.refl _, PSub.refl _, sub_dc (SubL.refl _)⟩, PSub.val_int (by assumption), trivial⟩)
         | (refine sub_zeroP ?_
            rw [if_pos rfl, if_pos (by omega), if_neg (by assumption), if_neg (by assumption)]
            done)
         | (rw [if_pos rfl, if_pos (by omega), if_pos (by omega)]
            exact PSub.tup ⟨PSub.agg ⟨PSub.refl _, PSub.refl _, sub_dc (SubL.refl _)⟩, PSub.refl _, trivial⟩)
         | skip
end Go.Proofs.YtjfjpnefohbobaaGreatDoor
/- Parties: the laws that compare with the reference. Conditions: none. -/
namespace Go.Proofs.YtjfjpnefohbobaaGreatDoor
open Go.Avc
structure Party.cmp (p : Party) : Prop where
 seed : p.seed.length = 32
 jour : p.jour.records.length ≤ 1000000
 log : ∀ r ∈ p.log, r.prev.length = 32
theorem cmp_zero : zeroP.cmp := ⟨rfl, by decide, by intro r h; cases h⟩
theorem lens_len (l : List (List UInt8)) : l.length ≤ K.lensN l := by
 induction l with
 | nil => exact Nat.zero_le _
 | cons x l ih => simp only [K.lensN, List.map_cons, List.sum_cons, List.length_cons] at ih ⊢; omega
theorem Party.can.cmp {p : Party} (h : p.can) : p.cmp := ⟨h.seed, by have := h.jour; have := lens_len p.jour.records; omega, fun r hr => (h.log r hr).1.2.2.2.2⟩
theorem Party.cmp.disk {p : Party} (h : p.cmp) (d : K.Disk) : ({ p with disk := d } : Party).cmp := ⟨h.1, h.2, h.3⟩
theorem cmp_note {p : Party} (h : p.can) (hl : p.log.length ≤ 1000) (hj : K.lensN p.jour.records ≤ 40000) (kind day : Int) (body : List UInt8) (hb : body.length ≤ 1000) : (p.note kind day body).1.cmp := by
 have hN := note_is p kind day body
 obtain ⟨⟨x, e⟩, hx⟩ : ∃ x, x = p.note kind day body := ⟨_, rfl⟩
 rw [← hx] at hN ⊢
 dsimp only at hN ⊢
 cases hN with
 | err => exact cmp_zero
 | disk d => exact h.cmp.disk d
 | ok d hv hf => exact (plus_can h hf hl hj hb d).cmp
theorem rsame_self {p : Party} (h : p.cmp) : PSpec Tryz.prog 9 [.agg (encP p), .agg (encP p)] (.bool true) := by
 have q := rsameP_spec p p h.seed h.seed h.jour h.log h.log
 rw [sameP_true rfl] at q
 exact q
attribute [local irreducible] PSub Wp PSpec Le Need Both
attribute [local irreducible] recE recD tagged sha headOf decF decode addR
theorem noteSpec_law (p : Party) (kind day : Int) (body : List UInt8) (hp : p.arg) (hb0 : body.length ≤ 140737488355328) : PSpec Tryz.prog 3 [.agg (encP p), .int kind, .int day, encB body] (.bool true) := by
 have q1 := rfewP_spec p
 have hc := fun h => fewP_can hp h
 obtain ⟨f, hf⟩ : ∃ f, f = fewP p := ⟨_, rfl⟩
 rw [← hf] at q1 hc
 have q2 := fun h hb => pnote_spec p kind day body (hc h).1 hb
 have q3 := fun h hb => rpnote_spec p kind day body (hc h).1 hb
 have q4 := fun h hb => cmp_note (hc h).1 (by have := (hc h).2.1; omega) (by have := (hc h).2.2; omega) kind day body hb
 have q5 := fun h => pcheck_spec p (hc h).1
 have q6 := fun h => rchk_spec p (hc h).1
 obtain ⟨⟨x, e⟩, hx⟩ : ∃ x, x = p.note kind day body := ⟨_, rfl⟩
 obtain ⟨c, hcc⟩ : ∃ c, c = p.check := ⟨_, rfl⟩
 rw [← hx] at q2 q3 q4
 rw [← hcc] at q5 q6
 obtain ⟨b1, hb1⟩ : ∃ b, b = true := ⟨_, rfl⟩
 refine PSpec.of_vc (fun Γ => more6 false Γ.P Γ.fx) (fun Γ => more6_ok) Tryz.func3 rfl Tryz.call3 (by simp) ?_
 rintro ⟨P, N, w0, X, β0, fx, y, hy, pk, df⟩ rfl rfl rfl hoff rfl; change y.on = false at hoff
 skip
 refine .inl ⟨_, psane_spec, ?_⟩
 skip
 refine .inl ⟨_, q1, ?_⟩
 repeat' ((try conv => whnf); first | (first | refine k3 ?_ ?_ | refine k4 ?_ ?_) <;> intro hb <;> (try rw [lM] at hb) <;> try (exfalso; omega) | refine k5 (fun hb => ?_) fun hb => ?_ | fail)
 any_goals exact PSub.val_bool rfl
 refine .inl ⟨_, q2 (by assumption) (by omega), ?_⟩
 repeat' ((try conv => whnf); first | refine aq rfl ?_ | fail)
 refine .inl ⟨_, q3 (by assumption) (by omega), ?_⟩
 repeat' ((try conv => whnf); first | refine aq rfl ?_ | fail)
 have q7 := rsame_self (q4 (by assumption) (by omega))
 rw [← hb1] at q7
 refine Wp.draw (more := more6 true _ _) more6_det more6_ok FOK.wide rfl (by decide +kernel) (by conv => lhs; reduce) ?_
 skip
 refine ⟨_, q7, ?_⟩
 repeat' ((try conv => whnf); first | (first | refine k3 ?_ ?_ | refine k4 ?_ ?_) <;> intro hb <;> (try rw [lM] at hb) <;> try (exfalso; omega) | refine k6 (fun hb => ?_) fun hb => ?_ | fail)
 rotate_left
 · exact absurd hb1 (by simp_all)
 refine ⟨_, q5 (by assumption), ?_⟩
 skip
 refine ⟨_, q6 (by assumption), ?_⟩
 skip
 exact PSub.val_bool (decide_eq_true rfl)
end Go.Proofs.YtjfjpnefohbobaaGreatDoor
