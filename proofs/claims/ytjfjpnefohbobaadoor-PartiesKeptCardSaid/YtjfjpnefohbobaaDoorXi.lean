/- Parties: steps. Conditions: none. -/
import Derived.Test.YtjfjpnefohbobaaDoorWd
import Derived.Test.YtjfjpnefohbobaaDoorXg
import Derived.Test.YtjfjpnefohbobaaDoorXh
import Derived.Test.YtjfjpnefohbobaaDoorXf
set_option linter.unusedSimpArgs false
set_option linter.unusedVariables false
namespace Go.Proofs.YtjfjpnefohbobaaDoor
open Go.Avc
structure Stp where
  kind : UInt8
  left : UInt8
  day : Int
  body : List UInt8
def encT (s : Stp) : List PV := [.val (.int .u8 (s.kind.toNat : Int)), .val (.int .u8 (s.left.toNat : Int)), .int s.day, encB s.body]
def encTs (l : List Stp) : PV := .sl 4 (l.map encT)
def fewT (l : List Stp) : Bool := decide (l.length ≤ 12) && l.all fun s => decide (s.body.length ≤ 300)
/-- What do answers. -/
inductive DoIs (p : Party) (s : Stp) : Party → Bool → Prop
  | same (q : Party) (d : K.Disk) (hq : q = p.withDisk d) (hv : q.valid) : DoIs p s q false
  | noted (q : Party) (d : K.Disk) (hf : Fits p.log (mkR p.log p.id (1 + (s.left.toNat % 9 : Nat)) s.day s.body)) (hq : q = p.plus d (mkR p.log p.id (1 + (s.left.toNat % 9 : Nat)) s.day s.body)) (hv : q.valid) : DoIs p s q true
def encDo (r : Party × Bool × Bool) : PV := .tup [.agg (encP r.1), .bool r.2.1, .bool r.2.2]
theorem crash_is {p : Party} (hv : p.valid) {l : Int} (h0 : 0 ≤ l) (h1 : l ≤ 65536) : ((p.crash l).2 ≠ 0) ∨ (p.crash l = (p.withDisk { p.disk with left := l }, 0) ∧ (p.withDisk { p.disk with left := l }).valid) := by
  cases hs : p.disk.stopped with
  | false => exact .inr ⟨(stop_valid hv hs h0 h1).2, (stop_valid hv hs h0 h1).1⟩
  | true =>
    left
    have hst : p.disk.stop l = (K.zeroD, 470) := by
      unfold K.Disk.stop
      rw [if_neg]
      unfold K.Disk.ready
      rw [if_neg (by rw [hs]; simp)]
      decide
    unfold Party.crash
    rw [if_pos hv.formed, hst, if_neg (by decide)]
    simp
set_option maxRecDepth 20000
set_option maxHeartbeats 4000000
set_option linter.unusedSimpArgs false
attribute [local irreducible] PSub Wp PSpec Le Need Both
attribute [local irreducible] recE recD tagged sha headOf decF decode addR
theorem fewT_spec (l : List Stp) : PSpec Tryd.prog 15 [encTs l] (.bool (fewT l)) := by
  refine PSpec.bd Tryd.call15 fun hbd => ?_
  have hlen : l.length ≤ 9223372036854775807 := by
    have := hbd.1
    simp only [encTs, PV.bd, List.length_map] at this
    exact this.1
  refine PSpec.of_vc (fun Γ => more6 false Γ.P Γ.fx) (fun Γ => more6_ok) Tryd.func15 rfl Tryd.call15 (by simp) ?_
  rintro ⟨P, N, w0, X, β0, fx, y, hy, pk, df⟩ rfl rfl rfl hoff rfl; change y.on = false at hoff
  skip
  refine Wp.loop (fun k : Nat => ⟨[(0, .pure (encTs l)), (3, .int k)], [], []⟩) (fun k => k ≤ l.length ∧ (l.take k).all (fun s => decide (s.body.length ≤ 300)) = true) (fun k => l.length - k) 0 (Le.of ?_ ?_ rfl rfl rfl) ⟨by omega, by simp⟩ ?_
  · (repeat' (first | exact trivial | refine And.intro ?_ ?_ | exact Or.inl rfl | fail))
  · (repeat' (first | exact trivial | fail))
  rintro k ⟨hk, hall⟩
  by_cases hk2 : k < l.length
  · have ht := take_allR (f := fun s : Stp => decide (s.body.length ≤ 300)) hk2
    have ha := all_atR (f := fun s : Stp => decide (s.body.length ≤ 300)) hk2
    refine code_sound (more := more6 false _ _) more6_ok FOK.wide _ ?_
    repeat' ((try conv => whnf); first | (first | refine k3 (fun hb => ?_) fun hb => ?_ | refine k4 (fun hb => ?_) fun hb => ?_) <;> (try rw [List.length_map] at hb) <;> (try (exfalso; omega; done)) | refine s4 nm ?_ | refine s5 nm nm ?_ | fail)
    · exact PSub.val_bool (by rw [fewT, ha (by simp; omega), Bool.and_false])
    · exact ⟨k + 1, Le.of (by (repeat' (first | exact trivial | refine And.intro ?_ ?_ | exact Or.inl rfl | fail))) (by (repeat' (first | exact trivial | fail))) rfl rfl rfl, ⟨by omega, by rw [ht, hall]; simp; omega⟩, by omega⟩
  · have ek : k = l.length := by omega
    subst ek
    rw [List.take_length] at hall
    refine code_sound (more := more6 false _ _) more6_ok FOK.wide _ ?_
    repeat' ((try conv => whnf); first | (first | refine k3 (fun hb => ?_) fun hb => ?_ | refine k4 (fun hb => ?_) fun hb => ?_) <;> (try rw [List.length_map] at hb) <;> (try (exfalso; omega; done)) | fail)
    exact PSub.val_bool (by unfold fewT; rw [hall, Bool.and_true, decide_eq_decide, List.length_map]; omega)
theorem rem_of (n : Nat) (m : Nat) (hm : 0 < m) : ∃ l : Int, (n : Int).tmod (m : Int) = l ∧ l = ((n % m : Nat) : Int) := ⟨_, rfl, by rw [Int.tmod_eq_emod_of_nonneg (by omega)]; omega⟩
theorem do_spec (p : Party) (s : Stp) (hv : p.valid) (hc : p.can) (hlen : p.log.length ≤ 1000) (hjl : K.lensN p.jour.records ≤ 40000) (hb0 : s.body.length ≤ 300) : ∃ q b, DoIs p s q b ∧ PSpec Tryd.prog 17 [.agg (encP p), .agg (encT s)] (encDo (q, b, true)) := by
  obtain ⟨n, hn⟩ : ∃ n : Nat, n = s.kind.toNat := ⟨_, rfl⟩
  obtain ⟨a, ha⟩ : ∃ n : Nat, n = s.left.toNat := ⟨_, rfl⟩
  have hn2 : n < 256 := by rw [hn]; exact UInt8.toNat_lt _
  have ha2 : a < 256 := by rw [ha]; exact UInt8.toNat_lt _
  obtain ⟨r7, hr7, er7⟩ := rem_of n 7 (by decide)
  obtain ⟨r6, hr6, er6⟩ := rem_of a 6 (by decide)
  obtain ⟨r9, hr9, er9⟩ := rem_of a 9 (by decide)
  have hT : encT s = [.val (.int .u8 (n : Int)), .val (.int .u8 (a : Int)), .int s.day, encB s.body] := by rw [hn, ha]; rfl
  rw [hT]
  by_cases h5 : r7 = 5
  · have q1 := pcrash_spec p r6
    rcases crash_is hv (l := r6) (by omega) (by omega) with h | ⟨h, hw⟩
    · refine ⟨p, false, .same _ p.disk rfl hv, ?_⟩
      obtain ⟨⟨x, e⟩, hx⟩ : ∃ x, x = p.crash r6 := ⟨_, rfl⟩
      rw [← hx] at q1 h
      refine PSpec.of_vc (fun Γ => more6 false Γ.P Γ.fx) (fun Γ => more6_ok) Tryd.func17 rfl Tryd.call17 (by simp) ?_
      rintro ⟨P, N, w0, X, β0, fx, y, hy, pk, df⟩ rfl rfl rfl hoff rfl; change y.on = false at hoff
      repeat' ((try conv => whnf); first | refine And.intro bd ?_ | fail)
      refine ⟨r7, hr7, ?_⟩
      repeat' ((try conv => whnf); first | (first | refine k3 (fun hb => ?_) fun hb => ?_ | refine k4 (fun hb => ?_) fun hb => ?_) <;> (try rw [List.length_map] at hb) <;> (try (exfalso; omega; done)) | refine And.intro bd ?_ | fail)
      refine ⟨r6, hr6, ?_⟩
      repeat' ((try conv => whnf); first | refine s4 nm ?_ | fail)
      refine .inl ⟨_, q1, ?_⟩
      repeat' ((try conv => whnf); first | (first | refine k3 (fun hb => ?_) fun hb => ?_ | refine k4 (fun hb => ?_) fun hb => ?_) <;> (try rw [List.length_map] at hb) <;> (try (exfalso; omega; done)) | refine And.intro rfl ?_ | fail)
      all_goals first
        | (refine absurd ?_ h; assumption)
        | exact PSub.of_eq rfl
    · refine ⟨_, false, .same _ _ rfl hw, ?_⟩
      obtain ⟨z, hz⟩ : ∃ z : Int, z = 0 := ⟨_, rfl⟩
      rw [h, ← hz] at q1
      obtain ⟨Q, hQ⟩ : ∃ Q, Q = p.withDisk { p.disk with left := r6 } := ⟨_, rfl⟩
      rw [← hQ] at q1 ⊢
      refine PSpec.of_vc (fun Γ => more6 false Γ.P Γ.fx) (fun Γ => more6_ok) Tryd.func17 rfl Tryd.call17 (by simp) ?_
      rintro ⟨P, N, w0, X, β0, fx, y, hy, pk, df⟩ rfl rfl rfl hoff rfl; change y.on = false at hoff
      repeat' ((try conv => whnf); first | refine And.intro bd ?_ | fail)
      refine ⟨r7, hr7, ?_⟩
      repeat' ((try conv => whnf); first | (first | refine k3 (fun hb => ?_) fun hb => ?_ | refine k4 (fun hb => ?_) fun hb => ?_) <;> (try rw [List.length_map] at hb) <;> (try (exfalso; omega; done)) | refine And.intro bd ?_ | fail)
      refine ⟨r6, hr6, ?_⟩
      repeat' ((try conv => whnf); first | refine s4 nm ?_ | fail)
      refine .inl ⟨_, q1, ?_⟩
      repeat' ((try conv => whnf); first | (first | refine k3 (fun hb => ?_) fun hb => ?_ | refine k4 (fun hb => ?_) fun hb => ?_) <;> (try rw [List.length_map] at hb) <;> (try (exfalso; omega; done)) | refine And.intro rfl ?_ | fail)
      all_goals exact PSub.of_eq rfl
  · by_cases h6 : r7 = 6
    · have hr := rest_to hv hc.log (q := p.withDisk (rst p.disk)) rfl
      have hRv := (restart_valid hv hc.log hr).2.2
      have q1 := prestart_spec p _ 0 hr
      refine ⟨_, false, .same _ _ rfl hRv, ?_⟩
      obtain ⟨z, hz⟩ : ∃ z : Int, z = 0 := ⟨_, rfl⟩
      rw [← hz] at q1
      obtain ⟨Q, hQ⟩ : ∃ Q, Q = p.withDisk (rst p.disk) := ⟨_, rfl⟩
      rw [← hQ] at q1 ⊢
      refine PSpec.of_vc (fun Γ => more6 false Γ.P Γ.fx) (fun Γ => more6_ok) Tryd.func17 rfl Tryd.call17 (by simp) ?_
      rintro ⟨P, N, w0, X, β0, fx, y, hy, pk, df⟩ rfl rfl rfl hoff rfl; change y.on = false at hoff
      repeat' ((try conv => whnf); first | refine And.intro bd ?_ | fail)
      refine ⟨r7, hr7, ?_⟩
      repeat' ((try conv => whnf); first | (first | refine k3 (fun hb => ?_) fun hb => ?_ | refine k4 (fun hb => ?_) fun hb => ?_) <;> (try rw [List.length_map] at hb) <;> (try (exfalso; omega; done)) | fail)
      refine .inl ⟨_, q1, ?_⟩
      repeat' ((try conv => whnf); first | refine And.intro rfl ?_ | fail)
      all_goals first
        | exact PSub.tup ⟨PSub.of_eq rfl, PSub.of_eq rfl, PSub.val_bool (decide_eq_true hz), trivial⟩
    · have q1 := pnote_spec p (1 + r9) s.day s.body hc (by omega)
      have hN := note_is p (1 + r9) s.day s.body
      obtain ⟨⟨x, e⟩, hx⟩ : ∃ x, x = p.note (1 + r9) s.day s.body := ⟨_, rfl⟩
      rw [← hx] at q1 hN
      dsimp only at hN
      have hD : ∃ q b, DoIs p s q b ∧ ((e = 0 ∧ q = x ∧ b = true) ∨ (e = 470 ∧ q = x ∧ b = false) ∨ (e ≠ 0 ∧ e ≠ 470 ∧ q = p ∧ b = false)) := by
        have e9 : (1 : Int) + r9 = 1 + ((s.left.toNat % 9 : Nat) : Int) := by rw [er9, ha]
        by_cases h0 : e = 0
        · obtain ⟨d, _, hf, hxe, hxv⟩ := hN.of_ok h0
          rw [e9] at hf hxe
          exact ⟨x, true, .noted x d hf hxe hxv, .inl ⟨h0, rfl, rfl⟩⟩
        · by_cases h4 : e = 470
          · obtain ⟨d, _, hxe, hxv⟩ := hN.of_disk h4
            exact ⟨x, false, .same x d hxe hxv, .inr (.inl ⟨h4, rfl, rfl⟩)⟩
          · exact ⟨p, false, .same p p.disk rfl hv, .inr (.inr ⟨h0, h4, rfl, rfl⟩)⟩
      obtain ⟨q, b, hdo, hcs⟩ := hD
      refine ⟨q, b, hdo, ?_⟩
      refine PSpec.of_vc (fun Γ => more6 false Γ.P Γ.fx) (fun Γ => more6_ok) Tryd.func17 rfl Tryd.call17 (by simp) ?_
      rintro ⟨P, N, w0, X, β0, fx, y, hy, pk, df⟩ rfl rfl rfl hoff rfl; change y.on = false at hoff
      repeat' ((try conv => whnf); first | refine And.intro bd ?_ | fail)
      refine ⟨r7, hr7, ?_⟩
      repeat' ((try conv => whnf); first | (first | refine k3 (fun hb => ?_) fun hb => ?_ | refine k4 (fun hb => ?_) fun hb => ?_) <;> (try rw [List.length_map] at hb) <;> (try (exfalso; omega; done)) | refine And.intro bd ?_ | fail)
      refine ⟨r9, hr9, ?_⟩
      repeat' ((try conv => whnf); first | refine s4 nm ?_ | fail)
      refine .inl ⟨_, q1, ?_⟩
      repeat' ((try conv => whnf); first | (first | refine k3 (fun hb => ?_) fun hb => ?_ | refine k4 (fun hb => ?_) fun hb => ?_) <;> (try rw [List.length_map] at hb) <;> (try (exfalso; omega; done)) | refine And.intro rfl ?_ | fail)
      all_goals rcases hcs with ⟨h, rfl, rfl⟩ | ⟨h, rfl, rfl⟩ | ⟨h, h', rfl, rfl⟩
      all_goals first
        | (exfalso; have hh : e = 0 := by assumption
           omega)
        | (exfalso; have hh : e = 470 := by assumption
           omega)
        | (exfalso; have hh : ¬e = 0 := by assumption
           omega)
        | (exfalso; have hh : ¬e = 470 := by assumption
           omega)
        | exact PSub.tup ⟨PSub.of_eq rfl, PSub.val_bool (decide_eq_true h), PSub.of_eq rfl, trivial⟩
        | exact PSub.tup ⟨PSub.of_eq rfl, PSub.val_bool (decide_eq_false (by omega)), PSub.of_eq rfl, trivial⟩
        | exact PSub.of_eq rfl
end Go.Proofs.YtjfjpnefohbobaaDoor
/- Parties: the main law: what a party keeps (plain part). Conditions: none. -/
namespace Go.Proofs.YtjfjpnefohbobaaDoor
open Go.Avc
/-- A record is a step's. -/
structure IsOf (r : Rec) (id : Int) (i : Nat) (s : Stp) : Prop where
  no : r.no = i
  party : r.party = id
  kind : r.kind = 1 + ((s.left.toNat % 9 : Nat) : Int)
  day : r.day = s.day
  body : r.body = s.body
/-- The party after k steps, of which ns were noted. -/
structure Kept (p : Party) (ns : List Stp) (id : Int) (k : Nat) : Prop where
  valid : p.valid
  can : p.can
  pid : p.id = id
  len : p.log.length = ns.length
  le : ns.length ≤ k
  jour : K.lensN p.jour.records ≤ 1000 * k
  at_ : ∀ i r s, p.log[i]? = some r → ns[i]? = some s → IsOf r id i s
theorem Kept.step {p q : Party} {ns : List Stp} {id : Int} {k : Nat} {s : Stp} {b : Bool} (h : Kept p ns id k) (hk : k ≤ 12) (hb : s.body.length ≤ 300) (hd : DoIs p s q b) : Kept q (if b then ns ++ [s] else ns) id (k + 1) := by
  have hle := h.le
  have hl := h.len
  have hj := h.jour
  cases hd with
  | same d hq hv =>
    subst hq
    exact ⟨hv, ⟨h.can.log, h.can.len, h.can.jour, h.can.seed⟩, h.pid, h.len, by simp only [Bool.false_eq_true, if_false]; omega, by show K.lensN p.jour.records ≤ _; omega, h.at_⟩
  | noted d hf hq hv =>
    subst hq
    have hok := fits_ok hf (mkR_len _ _ _ _ _)
    have h1 := (recE_len hok (by show s.body.length ≤ _; omega)).1
    have h2 : (mkR p.log p.id (1 + (s.left.toNat % 9 : Nat)) s.day s.body).body.length = s.body.length := rfl
    refine ⟨hv, plus_can h.can hf (by omega) (by omega) (by omega) d, h.pid, ?_, ?_, ?_, ?_⟩
    · show (p.log ++ [_]).length = _
      simp [hl]
    · simp; omega
    · show K.lensN (p.jour.records ++ [_]) ≤ _
      simp only [K.lensN, List.map_append, List.sum_append, List.map_cons, List.map_nil, List.sum_cons, List.sum_nil] at hj ⊢
      omega
    · intro i r t hi hi2
      have hi3 : (p.log ++ [mkR p.log p.id (1 + (s.left.toNat % 9 : Nat)) s.day s.body])[i]? = some r := hi
      have hi4 : (ns ++ [s])[i]? = some t := hi2
      by_cases hn : i < ns.length
      · rw [List.getElem?_append_left (by omega)] at hi3
        rw [List.getElem?_append_left (by omega)] at hi4
        exact h.at_ i r t hi3 hi4
      · have en : i = ns.length := by
          have := (List.getElem?_eq_some_iff.1 hi4).1
          simp at this; omega
        subst en
        rw [List.getElem?_append_right (by omega), hl, Nat.sub_self] at hi3
        rw [List.getElem?_append_right (by omega), Nat.sub_self] at hi4
        obtain rfl := Option.some.inj hi3
        obtain rfl := Option.some.inj hi4
        exact ⟨by show (p.log.length : Int) = _; rw [hl], h.pid, rfl, rfl, rfl⟩
/-- A new party has noted nothing. -/
theorem Kept.new {id : Int} {n : Nat} (h0 : 0 ≤ id) (h1 : id < 16) (hn : 1 ≤ n) (hn2 : n ≤ 30) : ∃ p : Party, newP 1 id n z32 = (p, 0) ∧ Kept p [] id 0 := by
  have hI := K.new_inv (n := n) (by omega) (by omega)
  have eD : (K.newD n).1 = ⟨List.replicate n K.zeroS, [], -1, false⟩ := by unfold K.newD; rw [if_neg (by omega)]; simp
  rw [← eD] at hI
  have h2 : (K.newD n).2 = 0 := by unfold K.newD; rw [if_neg (by omega)]
  refine ⟨⟨1, id, z32, (K.newD n).1, jr (K.newD n).1, []⟩, by unfold newP; rw [if_neg (by omega), if_pos h2], ?_⟩
  have hr : (jr (K.newD n).1).records = [] := by rw [jr_records, hI.inv.recs]; rfl
  refine ⟨valid_of ⟨⟨(by show (1 : Int) ≤ 1; decide), (by show (1 : Int) ≤ 4; decide)⟩, ⟨h0, h1⟩, disk_check hI⟩ ⟨valid_nil, .inl rfl⟩ rfl (hr.trans rfl) (.inr hI.pend), ⟨(by intro x h; cases h), Nat.zero_le _, ?_, rfl⟩, rfl, rfl, Nat.le_refl _, ?_, ?_⟩
  · show K.lensN (jr (K.newD n).1).records ≤ _
    rw [hr]; decide
  · show K.lensN (jr (K.newD n).1).records ≤ _
    rw [hr]; decide
  · intro i r s h; simp at h
/-- Also after a further restart. -/
theorem Kept.rest {p : Party} {ns : List Stp} {id : Int} {k : Nat} (h : Kept p ns id k) : RestIs p (p.withDisk (rst p.disk)) 0 ∧ Kept (p.withDisk (rst p.disk)) ns id k := by
  have hr := rest_to h.valid h.can.log (q := p.withDisk (rst p.disk)) rfl
  exact ⟨hr, (restart_valid h.valid h.can.log hr).2.2, ⟨h.can.log, h.can.len, h.can.jour, h.can.seed⟩, h.pid, h.len, h.le, h.jour, h.at_⟩
end Go.Proofs.YtjfjpnefohbobaaDoor
/- Parties: the main law. Conditions: none. -/
namespace Go.Proofs.YtjfjpnefohbobaaDoor
open Go.Avc
set_option maxRecDepth 20000
set_option maxHeartbeats 4000000
set_option linter.unusedSimpArgs false
attribute [local irreducible] PSub Wp PSpec Le Need Both
attribute [local irreducible] recE recD tagged sha headOf decF decode addR
theorem kept_law (id sec : UInt8) (steps : List Stp) : PSpec Tryd.prog 5 [.val (.int .u8 (id.toNat : Int)), .val (.int .u8 (sec.toNat : Int)), encTs steps] (.bool true) := by
  obtain ⟨n, hn⟩ : ∃ n : Nat, n = id.toNat := ⟨_, rfl⟩
  obtain ⟨a, ha⟩ : ∃ n : Nat, n = sec.toNat := ⟨_, rfl⟩
  rw [← hn, ← ha]
  obtain ⟨r16, hr16, er16⟩ := rem_of n 16 (by decide)
  obtain ⟨r30, hr30, er30⟩ := rem_of a 30 (by decide)
  have q1 := fewT_spec steps
  obtain ⟨f, hf⟩ : ∃ f, f = fewT steps := ⟨_, rfl⟩
  rw [← hf] at q1
  obtain ⟨P0, hP0, K0⟩ := Kept.new (id := r16) (n := 1 + a % 30) (by omega) (by omega) (by omega) (by omega)
  have q2 := pnew_spec 1 r16 (1 + r30) z32
  rw [show (1 : Int) + r30 = ((1 + a % 30 : Nat) : Int) by omega, hP0] at q2
  rw [show ((1 + a % 30 : Nat) : Int) = 1 + r30 by omega] at q2
  refine PSpec.of_vc (fun Γ => more6 false Γ.P Γ.fx) (fun Γ => more6_ok) Tryd.func5 rfl Tryd.call5 (by simp) ?_
  rintro ⟨P, N, w0, X, β0, fx, y, hy, pk, df⟩ rfl rfl rfl hoff rfl; change y.on = false at hoff
  skip
  refine .inl ⟨_, psane_spec, ?_⟩
  skip
  refine .inl ⟨_, q1, ?_⟩
  repeat' ((try conv => whnf); first | refine k5 (fun hb => ?_) fun hb => ?_ | refine And.intro bd ?_ | fail)
  any_goals exact PSub.val_bool rfl
  refine ⟨r16, hr16, ?_⟩
  repeat' ((try conv => whnf); first | refine s4 nm ?_ | refine And.intro bd ?_ | fail)
  refine ⟨r30, hr30, ?_⟩
  repeat' ((try conv => whnf); first | refine s4 nm ?_ | fail)
  refine .inl ⟨_, q2, ?_⟩
  repeat' ((try conv => whnf); first | refine And.intro rfl ?_ | refine And.intro bd ?_ | fail)
  refine Wp.loop (fun x : Party × List Stp × Nat => ⟨[(0, .pure (.val (.int .u8 (n : Int)))), (2, .pure (encTs steps)), (7, .loc 7 0 0), (9, .lsl 37 0 x.2.1.length), (10, .int x.2.2)], [(7, some (.box ((encP x.1).map .pure))), (37, some (.row 4 (x.2.1.map encT)))], [7, 37]⟩)
    (fun x => Kept x.1 x.2.1 r16 x.2.2 ∧ x.2.2 ≤ steps.length) (fun x => steps.length - x.2.2) (P0, [], 0) (Le.of ?_ ?_ rfl rfl rfl) ⟨K0, Nat.zero_le _⟩ ?_
  · (repeat' (first | exact trivial | refine And.intro ?_ ?_ | exact Or.inl rfl | fail))
  · (repeat' (first | exact trivial | exact rfl | refine And.intro ?_ ?_ | refine Exists.intro _ (And.intro rfl ?_) | exact Or.inl rfl | fail))
  rintro ⟨p, ns, k⟩ ⟨hK, hk⟩
  dsimp only at hK hk ⊢
  have hfs : steps.length ≤ 12 ∧ ∀ s ∈ steps, s.body.length ≤ 300 := by
    have : fewT steps = true := by rw [← hf]; assumption
    simp only [fewT, Bool.and_eq_true, decide_eq_true_eq, List.all_eq_true] at this
    exact this
  by_cases hk2 : k < steps.length
  · have hbl := hfs.2 steps[k] (List.getElem_mem _)
    have hl1 := hK.len
    have hl2 := hK.le
    have hl3 := hK.jour
    obtain ⟨q, b, hdo, d1⟩ := do_spec p steps[k] hK.valid hK.can (by omega) (by omega) hbl
    have hS := hK.step (by omega) hbl hdo
    have hC := pcheck_spec q hS.can
    rw [check_valid hS.valid] at hC
    refine code_sound (more := more6 false _ _) more6_ok FOK.wide _ ?_
    repeat' ((try conv => whnf); first | (first | refine k3 (fun hb => ?_) fun hb => ?_ | refine k4 (fun hb => ?_) fun hb => ?_) <;> (try rw [List.length_map] at hb) <;> (try (exfalso; omega; done)) | fail)
    refine Wp.draw (more := more6 true _ _) more6_det more6_ok FOK.wide rfl (by decide +kernel) (by conv => lhs; reduce) ?_
    repeat' ((try conv => whnf); first | refine s5 nm nm ?_ | fail)
    refine ⟨_, d1, ?_⟩
    repeat' ((try conv => whnf); first | refine And.intro rfl ?_ | fail)
    refine .inl ⟨_, hC, ?_⟩
    repeat' ((try conv => whnf); first | refine k6 (fun hb => ?_) fun hb => ?_ | refine And.intro rfl ?_ | refine s4 nm ?_ | refine s5 nm nm ?_ | refine And.intro bd ?_ | fail)
    · have hbt : b = true := by assumption
      rw [if_pos hbt] at hS
      refine ⟨(q, ns ++ [steps[k]], k + 1), Le.map [(37, 69)] ?_ ?_ rfl rfl rfl rfl, ⟨hS, hk2⟩, by dsimp only; omega⟩
      · rw [show (ns ++ [steps[k]]).length = (ns.map encT).length + 1 by simp]
        refine ⟨Or.inl rfl, Or.inl rfl, Or.inl rfl, SubA.lsl (by simp), ?_, trivial⟩
        (repeat' (first | exact Or.inl rfl | fail))
      · (repeat' (first | exact trivial | refine And.intro ?_ ?_ | refine Exists.intro _ (And.intro rfl ?_) | exact Or.inl rfl | fail))
        all_goals (refine rowEq ?_; simp [encT])
    · have hbt : b = false := by assumption
      rw [hbt] at hS
      refine ⟨(q, ns, k + 1), Le.of ?_ ?_ rfl rfl rfl, ⟨hS, hk2⟩, by dsimp only; omega⟩
      · (repeat' (first | exact trivial | refine And.intro ?_ ?_ | exact Or.inl rfl | fail))
      · (repeat' (first | exact trivial | exact rfl | refine And.intro ?_ ?_ | refine Exists.intro _ (And.intro rfl ?_) | exact Or.inl rfl | fail))
  · have hR := hK.rest
    have q3 := prestart_spec p _ 0 hR.1
    refine code_sound (more := more6 false _ _) more6_ok FOK.wide _ ?_
    repeat' ((try conv => whnf); first | (first | refine k3 (fun hb => ?_) fun hb => ?_ | refine k4 (fun hb => ?_) fun hb => ?_) <;> (try rw [List.length_map] at hb) <;> (try (exfalso; omega; done)) | fail)
    refine .inl ⟨_, q3, ?_⟩
    repeat' ((try conv => whnf); first | refine And.intro rfl ?_ | fail)
    have hC2 := pcheck_spec _ hR.2.can
    rw [check_valid hR.2.valid] at hC2
    refine .inl ⟨_, hC2, ?_⟩
    skip
    have q6 := rvSameL_spec p.log p.log (fun r hr => (hK.can.log r hr).1.2.2.2.2) (fun r hr => (hK.can.log r hr).1.2.2.2.2)
    rw [sameL2_refl] at q6
    refine .inl ⟨_, q6, ?_⟩
    repeat' ((try conv => whnf); first | (first | refine k3 (fun hb => ?_) fun hb => ?_ | refine k4 (fun hb => ?_) fun hb => ?_) <;> (try rw [List.length_map] at hb) <;> (try (exfalso; omega; done)) | fail)
    rotate_left
    · refine absurd (?_ : (((p.withDisk (rst p.disk), (0 : Int)).fst.log.length : Nat) : Int) = (ns.length : Int)) (by assumption)
      show ((p.log.length : Nat) : Int) = _
      rw [hK.len]
    refine Wp.loop (fun i : Nat => ⟨[(0, .pure (.val (.int .u8 (n : Int)))), (9, .lsl 37 0 ns.length), (14, .loc 14 0 0), (16, .int i)], [(14, some (.box ((encP (p.withDisk (rst p.disk))).map .pure))), (37, some (.row 4 (ns.map encT)))], [14, 37]⟩)
      (fun i => i ≤ ns.length) (fun i => ns.length - i) 0 (Le.of ?_ ?_ rfl rfl rfl) (Nat.zero_le _) ?_
    · (repeat' (first | exact trivial | refine And.intro ?_ ?_ | exact Or.inl rfl | fail))
    · (repeat' (first | exact trivial | exact rfl | refine And.intro ?_ ?_ | refine Exists.intro _ (And.intro rfl ?_) | exact Or.inl rfl | fail))
    intro i hi
    by_cases hi2 : i < ns.length
    · have hl := hK.len
      have h12 : ns.length ≤ 12 := by have := hK.le; have := hfs.1; omega
      have hof := hK.at_ i p.log[i] ns[i] (List.getElem?_eq_getElem (by omega)) (List.getElem?_eq_getElem hi2)
      obtain ⟨r, hr⟩ : ∃ r, r = p.log[i] := ⟨_, rfl⟩
      rw [← hr] at hof
      have hrow : ((p.withDisk (rst p.disk)).log.map encR)[((i : Nat) : Int).toNat]? = some (encR r) := by
        show (p.log.map encR)[((i : Nat) : Int).toNat]? = _
        rw [Int.toNat_natCast, List.getElem?_map, List.getElem?_eq_getElem (by omega), ← hr]; rfl
      refine code_sound (more := more6 false _ _) more6_ok FOK.wide _ ?_
      repeat' ((try conv => whnf); first | (first | refine k3 (fun hb => ?_) fun hb => ?_ | refine k4 (fun hb => ?_) fun hb => ?_) <;> (try rw [List.length_map] at hb) <;> (try (exfalso; omega; done)) | refine And.intro bd ?_ | fail)
      refine ⟨_, hrow, ?_⟩
      repeat' ((try conv => whnf); first | refine And.intro rfl ?_ | fail)
      obtain ⟨o1, o2, o3, o4, o5⟩ := hof
      have hsrow : (ns.map encT)[((i : Nat) : Int).toNat]? = some (encT ns[i]) := by
        rw [Int.toNat_natCast, List.getElem?_map, List.getElem?_eq_getElem hi2]; rfl
      refine Wp.draw (more := more6 true _ _) more6_det more6_ok FOK.wide rfl (by decide +kernel) (by conv => lhs; reduce) ?_
      repeat' ((try conv => whnf); first | (first | refine k3 (fun hb => ?_) fun hb => ?_ | refine k4 (fun hb => ?_) fun hb => ?_) <;> (try rw [List.length_map] at hb) <;> (try (exfalso; omega; done)) | refine And.intro bd ?_ | fail)
      refine ⟨r16, hr16, ?_⟩
      repeat' ((try conv => whnf); first | (first | refine k3 (fun hb => ?_) fun hb => ?_ | refine k4 (fun hb => ?_) fun hb => ?_) <;> (try rw [List.length_map] at hb) <;> (try (exfalso; omega; done)) | refine s4 nm ?_ | refine And.intro bd ?_ | refine ⟨_, _, getMapN nm, rfl, ?_⟩ | fail)
      have e0 : 0 + ((i : Nat) : Int).toNat = i := by simp
      have hi3 : 0 + ((i : Nat) : Int).toNat < ns.length := by rw [e0]; exact hi2
      obtain ⟨t, ht⟩ : ∃ t, t = ns[0 + ((i : Nat) : Int).toNat] := ⟨_, rfl⟩
      have ht2 : t = ns[i] := by rw [ht]; congr 1
      rw [← ht2] at o3 o4 o5
      obtain ⟨l9, hl9, el9⟩ := rem_of t.left.toNat 9 (by decide)
      refine ⟨l9, by rw [← hl9, ht]; rfl, ?_⟩
      repeat' ((try conv => whnf); first | (first | refine k3 (fun hb => ?_) fun hb => ?_ | refine k4 (fun hb => ?_) fun hb => ?_) <;> (try rw [List.length_map] at hb) <;> (try (exfalso; omega; done)) | refine s4 nm ?_ | refine s7 ?_ | refine And.intro bd ?_ | refine ⟨_, _, getMapN nm, rfl, ?_⟩ | fail)
      all_goals first
        | (refine ⟨i + 1, ?_, hi2, by first | omega | (dsimp only; omega)⟩
           refine Le.of ?_ ?_ rfl rfl rfl
           · (repeat' (first | exact trivial | refine And.intro ?_ ?_ | exact Or.inl rfl | fail))
           · (repeat' (first | exact trivial | exact rfl | refine And.intro ?_ ?_ | refine Exists.intro _ (And.intro rfl ?_) | exact Or.inl rfl | fail))
             skip)
        | exact absurd o1 (by assumption)
        | exact absurd o2 (by assumption)
        | exact absurd (show r.kind = 1 + l9 by rw [o3, el9]) (by assumption)
        | exact absurd (show r.day = ns[0 + ((i : Nat) : Int).toNat].day by rw [o4, ht]) (by assumption)
        | (refine absurd (?_ : ByteArray.mk r.body.toArray = ByteArray.mk ns[0 + ((i : Nat) : Int).toNat].body.toArray) (by assumption)
           rw [o5, ht])
    · refine code_sound (more := more6 false _ _) more6_ok FOK.wide _ ?_
      repeat' ((try conv => whnf); first | (first | refine k3 (fun hb => ?_) fun hb => ?_ | refine k4 (fun hb => ?_) fun hb => ?_) <;> (try rw [List.length_map] at hb) <;> (try (exfalso; omega; done)) | fail)
      exact PSub.val_bool rfl
end Go.Proofs.YtjfjpnefohbobaaDoor
/- Parties: how steps open. Conditions: none. -/
namespace Go.Proofs.YtjfjpnefohbobaaDoor
open Go.Avc
theorem op_step : Opn Tryd.prog 51 (fun ps => ∃ s : Stp, ps = encT s) :=
  (Opn.struct (Qs := [_, _, _, _]) Tryd.underlying51 (by kernel_rfl) (fun fuel => ⟨op_byte fuel, op_byte fuel, op_int fuel, op_bytes fuel, trivial⟩)).mono fun _ h => by
    obtain ⟨_, ⟨a, rfl⟩, _, ⟨_, ⟨b, rfl⟩, _, ⟨_, ⟨c, rfl, _⟩, _, ⟨_, ⟨d, rfl, _⟩, _, rfl, rfl⟩, rfl⟩, rfl⟩, rfl⟩ := h
    exact ⟨⟨a, b, c, d⟩, rfl⟩
theorem op_steps : Opn Tryd.prog 45 (fun ps => ∃ l : List Stp, ps = [encTs l]) :=
  (Opn.slice (n := 4) Tryd.underlying45 (by kernel_rfl) (by omega) op_step).mono fun _ ⟨rows, h, hr, _⟩ => by
    obtain ⟨l, rfl, _⟩ := rows_map (f := encT) (R := fun _ => True) (fun r h => by obtain ⟨w, hw⟩ := hr r h; exact ⟨w, hw, trivial⟩)
    exact ⟨l, h⟩
end Go.Proofs.YtjfjpnefohbobaaDoor
