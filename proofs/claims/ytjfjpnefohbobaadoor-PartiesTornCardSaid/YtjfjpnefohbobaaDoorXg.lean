/- Parties: what Note answers; the law PartiesLinked. Conditions: none. -/
import Derived.Test.YtjfjpnefohbobaaDoorWd
import Derived.Test.YtjfjpnefohbobaaDoorXf
set_option linter.unusedSimpArgs false
set_option linter.unusedVariables false
namespace Go.Proofs.YtjfjpnefohbobaaDoor
open Go.Avc
/-- What Note answers. -/
inductive NoteIs (p : Party) (kind day : Int) (body : List UInt8) : Party → Int → Prop
  | err (e : Int) (h0 : e ≠ 0) (h1 : e ≠ 470) : NoteIs p kind day body zeroP e
  | disk (d : K.Disk) (hv : p.valid) (h : ({ p with disk := d } : Party).valid) : NoteIs p kind day body { p with disk := d } 470
  | ok (d : K.Disk) (hv : p.valid) (hf : Fits p.log (mkR p.log p.id kind day body)) (h : (p.plus d (mkR p.log p.id kind day body)).valid) : NoteIs p kind day body (p.plus d (mkR p.log p.id kind day body)) 0
theorem note_is (p : Party) (kind day : Int) (body : List UInt8) : NoteIs p kind day body (p.note kind day body).1 (p.note kind day body).2 := by
  by_cases hv : p.valid
  · cases hs : p.disk.stopped with
    | false =>
      rcases note_run hv hs kind day body with ⟨h1, h2, h3⟩ | ⟨_, hf, ⟨d, h1, h2, _⟩ | ⟨_, d, h1, h2, _⟩⟩
      · rw [h3]; exact .err _ h1 h2
      · rw [h1]; exact .ok d hv hf h2
      · rw [h1]; exact .disk d hv h2
    | true =>
      rcases note_stopped hv hs kind day body with ⟨e, h1, h2, h3⟩ | ⟨h1, _⟩
      · rw [h3]; exact .err _ h1 h2
      · rw [h1]; exact .disk p.disk hv hv
  · have : p.note kind day body = (zeroP, 510) := by unfold Party.note; rw [if_neg hv]
    rw [this]
    exact .err _ (by decide) (by decide)
theorem NoteIs.of_ok {p x : Party} {kind day : Int} {body : List UInt8} {e : Int} (h : NoteIs p kind day body x e) (h0 : e = 0) : ∃ d, p.valid ∧ Fits p.log (mkR p.log p.id kind day body) ∧ x = p.plus d (mkR p.log p.id kind day body) ∧ x.valid := by
  cases h with
  | err _ h _ => exact absurd h0 h
  | disk => exact absurd h0 (by decide)
  | ok d hv hf h => exact ⟨d, hv, hf, rfl, h⟩
theorem NoteIs.of_disk {p x : Party} {kind day : Int} {body : List UInt8} {e : Int} (h : NoteIs p kind day body x e) (h0 : e = 470) : ∃ d, p.valid ∧ x = { p with disk := d } ∧ x.valid := by
  cases h with
  | err _ _ h => exact absurd h0 h
  | disk d hv h => exact ⟨d, hv, rfl, h⟩
  | ok => exact absurd h0 (by decide)
theorem NoteIs.of_err {p x : Party} {kind day : Int} {body : List UInt8} {e : Int} (h : NoteIs p kind day body x e) (h0 : e ≠ 0) (h1 : e ≠ 470) : x = zeroP := by
  cases h with
  | err => rfl
  | disk => exact absurd rfl h1
  | ok => exact absurd rfl h0
theorem plus_can {p : Party} {kind day : Int} {body : List UInt8} (hc : p.can) (hf : Fits p.log (mkR p.log p.id kind day body)) (hl : p.log.length ≤ 1000) (hj : K.lensN p.jour.records ≤ 40000) (hb : body.length ≤ 1000) (d : K.Disk) : (p.plus d (mkR p.log p.id kind day body)).can := by
  have hok := fits_ok hf (mkR_len _ _ _ _ _)
  refine ⟨fun x hx => ?_, by show (p.log ++ [_]).length ≤ _; simp; omega, ?_, hc.seed⟩
  · rcases List.mem_append.1 hx with h | h
    · exact hc.log x h
    · rw [List.mem_singleton.1 h]; exact ⟨hok, by show body.length ≤ _; omega⟩
  · have h1 := (recE_len hok (by show body.length ≤ _; omega)).1
    have h2 : (mkR p.log p.id kind day body).body.length = body.length := rfl
    show K.lensN (p.jour.records ++ [_]) ≤ _
    simp only [K.lensN, List.map_append, List.sum_append, List.map_cons, List.map_nil, List.sum_cons, List.sum_nil] at hj ⊢
    omega
set_option maxRecDepth 20000
set_option maxHeartbeats 4000000
set_option linter.unusedSimpArgs false
attribute [local irreducible] PSub Wp PSpec Le Need Both
attribute [local irreducible] recE recD tagged sha headOf decF decode addR
theorem linked_law (p : Party) (kind day : Int) (body : List UInt8) (hp : p.arg) (hb0 : body.length ≤ 140737488355328) : PSpec Tryd.prog 6 [.agg (encP p), .int kind, .int day, encB body] (.bool true) := by
  have q1 := rfewP_spec p
  have hc := fun h => fewP_can hp h
  obtain ⟨f, hf⟩ : ∃ f, f = fewP p := ⟨_, rfl⟩
  rw [← hf] at q1 hc
  have q2 := fun h hb => pnote_spec p kind day body (hc h).1 hb
  have hN := note_is p kind day body
  obtain ⟨⟨x, e⟩, hx⟩ : ∃ x, x = p.note kind day body := ⟨_, rfl⟩
  rw [← hx] at q2 hN
  dsimp only at hN
  refine PSpec.of_vc (fun Γ => more6 false Γ.P Γ.fx) (fun Γ => more6_ok) Tryd.func6 rfl Tryd.call6 (by simp) ?_
  rintro ⟨P, N, w0, X, β0, fx, y, hy, pk, df⟩ rfl rfl rfl hoff rfl; change y.on = false at hoff
  skip
  refine .inl ⟨_, psane_spec, ?_⟩
  skip
  refine .inl ⟨_, q1, ?_⟩
  repeat' ((try conv => whnf); first | (first | refine k3 (fun hb => ?_) fun hb => ?_ | refine k4 (fun hb => ?_) fun hb => ?_) <;> (try rw [List.length_map] at hb) <;> (try (exfalso; omega; done)) | refine k5 (fun hb => ?_) fun hb => ?_ | fail)
  any_goals exact PSub.val_bool rfl
  have hcan := (hc (by assumption)).1
  have h30 := (hc (by assumption)).2.1
  have h13 := (hc (by assumption)).2.2
  refine .inl ⟨_, q2 (by assumption) (by omega), ?_⟩
  repeat' ((try conv => whnf); first | (first | refine k3 (fun hb => ?_) fun hb => ?_ | refine k4 (fun hb => ?_) fun hb => ?_) <;> (try rw [List.length_map] at hb) <;> (try (exfalso; omega; done)) | refine And.intro rfl ?_ | fail)
  · obtain ⟨d, hv, hfit, hxe, hxv⟩ := hN.of_ok (by assumption)
    have hxc : x.can := by rw [hxe]; exact plus_can hcan hfit (by omega) (by omega) (by omega) d
    have hxl : x.log = p.log ++ [mkR p.log p.id kind day body] := by rw [hxe]; rfl
    have hxo : Valid x.log := hxv.owned.1
    obtain ⟨L, hL⟩ : ∃ L, L = x.log := ⟨_, rfl⟩
    rw [← hL] at hxl hxo
    have hLl : L.length = p.log.length + 1 := by rw [hxl]; simp
    have q3 := rvSameL_rows p.log (fun r hr => (hcan.log r hr).1.2.2.2.2)
    rw [sameL2_refl] at q3
    have q4 := evCheck_spec L (by rw [hL]; exact hxc.log) (by rw [hL]; have := hxc.len; omega)
    rw [validB_true hxo] at q4
    have q5 := pcheck_spec x hxc
    rw [check_valid hxv] at q5
    have q6 := evHead_spec p.log hcan.log
    have hxll : x.log.length = p.log.length + 1 := by rw [← hL]; exact hLl
    have hml : (p.log.map encR).length = p.log.length := List.length_map ..
    have hmL : (x.log.map encR).length = x.log.length := List.length_map ..
    have c1 : cut (x.log.map encR) 0 ((((p.log.map encR).length : Nat) : Int)).toNat = p.log.map encR := by rw [← hL]; exact cut_len hxl
    obtain ⟨m, hm⟩ : ∃ m, m = mkR p.log p.id kind day body := ⟨_, rfl⟩
    have hxi : ∀ i (h : i < x.log.length), i = p.log.length → x.log[i] = m := fun i h ei => by subst ei; simp only [← hL, hxl, ← hm]; simp
    have dm := digEq m.prev (headOf p.log) (by rw [hm]; exact headOf_len _) (headOf_len _)
    rw [decide_eq_true (by rw [hm]; rfl)] at dm
    have m1 : m.no = p.log.length := by rw [hm]; rfl
    have m2 : m.party = p.id := by rw [hm]; rfl
    have m3 : m.kind = kind := by rw [hm]; rfl
    have m4 : m.day = day := by rw [hm]; rfl
    have m5 : m.body = body := by rw [hm]; rfl
    have m6 : p.log.length = 0 ∨ lastDay p.log ≤ day := by
      rcases hfit.same with h | h
      · exact .inl h
      · exact .inr h.2
    rw [hL] at q4
    obtain ⟨b1, hb1⟩ : ∃ b, b = true := ⟨_, rfl⟩
    rw [← hb1] at q3 dm
    clear hm hxe
    refine Wp.draw (more := more6 true _ _) more6_det more6_ok FOK.wide rfl (by decide +kernel) (by conv => lhs; reduce) ?_
    repeat' ((try conv => whnf); first | (first | refine k3 (fun hb => ?_) fun hb => ?_ | refine k4 (fun hb => ?_) fun hb => ?_) <;> (try rw [List.length_map] at hb) <;> (try (exfalso; omega; done)) | refine s4 nm ?_ | refine And.intro bd ?_ | fail)
    refine ⟨_, q3 _ c1, ?_⟩
    repeat' ((try conv => whnf); first | refine k5 (fun hb => ?_) fun hb => ?_ | fail)
    any_goals (refine absurd (Eq.trans (Eq.symm hb1) (?_ : b1 = false)) (by decide); assumption)
    refine ⟨_, q4, ?_⟩
    skip
    refine ⟨_, q5, ?_⟩
    repeat' ((try conv => whnf); first | refine And.intro rfl ?_ | refine s5 nm nm ?_ | fail)
    rotate_left
    · refine absurd (?_ : ((x.log.length : Nat) : Int) = ((p.log.map encR).length : Int) + 1) (by assumption)
      rw [hml, hxll]; simp
    have hx2 : x.log[(p.log.map encR).length]'(by omega) = m := hxi _ _ hml
    refine Wp.le (Le.of (s' := ⟨[(1, .int kind), (2, .int day), (3, .pure (encB body)), (4, .loc 4 0 0), (11, .int p.log.length), (12, .loc 12 0 0)], [(12, some (.box (pures (encR (x.log[(p.log.map encR).length]'(by omega)))))), (4, some (.box (pures (encP p))))], [12, 4]⟩) ?_ ?_ rfl rfl rfl) ?_
    · (repeat' (first | exact trivial | refine And.intro ?_ ?_ | exact Or.inl rfl | exact l1 bd | fail))
    · (repeat' (first | exact trivial | refine And.intro ?_ ?_ | refine Exists.intro _ (And.intro rfl ?_) | exact Or.inl rfl | fail))
    rw [hx2]
    refine Wp.draw (more := more6 true _ _) more6_det more6_ok FOK.wide rfl (by decide +kernel) (by conv => lhs; reduce) ?_
    skip
    refine ⟨_, q6, ?_⟩
    repeat' ((try conv => whnf); first | refine And.intro rfl ?_ | fail)
    refine ⟨_, dm, isAg, isAp, ?_⟩
    repeat' ((try conv => whnf); first | (first | refine k3 (fun hb => ?_) fun hb => ?_ | refine k4 (fun hb => ?_) fun hb => ?_) <;> (try rw [List.length_map] at hb) <;> (try (exfalso; omega; done)) | refine k6 (fun hb => ?_) fun hb => ?_ | refine s4 nm ?_ | refine s6 nm nm ?_ | refine s7 ?_ | fail)
    any_goals (refine absurd (Eq.trans (Eq.symm hb1) (?_ : b1 = false)) (by decide); assumption)
    · exact PSub.val_bool rfl
    · have e2 := lastDay_at (l := p.log) (n := ((p.log.length : Int) - 1).toNat) (by omega) (by omega)
      refine PSub.val_bool (decide_eq_true ?_)
      rw [e2]
      omega
    · exact absurd (congrArg (fun x : List UInt8 => (⟨x.toArray⟩ : ByteArray)) m5) (by assumption)
  · obtain ⟨d, hv, hxe, hxv⟩ := hN.of_disk (by assumption)
    have hxc : x.can := by rw [hxe]; exact ⟨hcan.1, hcan.2, hcan.3, hcan.4⟩
    have hxl : x.log = p.log := by rw [hxe]
    have q3 : PSpec Tryd.prog 13 [encRs x.log, encRs p.log] (.bool (sameL2 p.log p.log)) := by
      rw [hxl]; exact rvSameL_spec p.log p.log (fun r hr => (hcan.log r hr).1.2.2.2.2) (fun r hr => (hcan.log r hr).1.2.2.2.2)
    rw [sameL2_refl] at q3
    have q5 := pcheck_spec x hxc
    rw [check_valid hxv] at q5
    obtain ⟨b1, hb1⟩ : ∃ b, b = true := ⟨_, rfl⟩
    rw [← hb1] at q3
    refine .inl ⟨_, q3, ?_⟩
    repeat' ((try conv => whnf); first | refine k6 (fun hb => ?_) fun hb => ?_ | fail)
    any_goals (refine absurd (Eq.trans (Eq.symm hb1) (?_ : b1 = false)) (by decide); assumption)
    refine .inl ⟨_, q5, ?_⟩
    skip
    exact PSub.val_bool rfl
  · have hxe := hN.of_err (by assumption) (by assumption)
    have q3 := rsameP_spec zeroP zeroP rfl rfl (by decide) (by intro r h; cases h) (by intro r h; cases h)
    rw [sameP_true rfl] at q3
    have q3' : PSpec Tryd.prog 14 [.agg (encP x), .agg (encP zeroP)] (.bool true) := by rw [hxe]; exact q3
    obtain ⟨b1, hb1⟩ : ∃ b, b = true := ⟨_, rfl⟩
    rw [← hb1] at q3'
    refine .inl ⟨_, q3'.args ⟨PSub.refl _, sub_zeroC, trivial⟩, ?_⟩
    repeat' ((try conv => whnf); first | (first | refine k3 (fun hb => ?_) fun hb => ?_ | refine k4 (fun hb => ?_) fun hb => ?_) <;> (try rw [List.length_map] at hb) <;> (try (exfalso; omega; done)) | refine k6 (fun hb => ?_) fun hb => ?_ | fail)
    any_goals (refine absurd (Eq.trans (Eq.symm hb1) (?_ : b1 = false)) (by decide); assumption)
    all_goals exact PSub.val_bool rfl
end Go.Proofs.YtjfjpnefohbobaaDoor
