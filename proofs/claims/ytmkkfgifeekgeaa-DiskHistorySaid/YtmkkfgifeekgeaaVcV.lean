/- Regions whose order of evaluation is open: the conditions in the order of the text suffice for every order. Conditions: none. -/
import Derived.Test.YtmkkfgifeekgeaaVcU
namespace Go.Avc
open Go.RowKit

theorem byteRows_rfl (bs : List UInt8) : (bs.map fun b => [PV.val (.int .u8 (b.toNat : Int))]) = byteRows bs := rfl

/-- x stands before y: y waits for x, or they touch no block that the other turns. -/
def PairOK (A : List Nat) (x y : Stp) : Prop := anc A y.i x.i = true ∨ ((∀ k ∈ x.wk, k ∉ y.ks) ∧ ∀ k ∈ y.wk, k ∉ x.ks)

theorem pairInd_spec {A : List Nat} {j : Nat} {ks wk : List Nat} {r : Rc} (h : pairInd A j ks wk r = true) : anc A j r.i = true ∨ ((∀ k ∈ r.wk, k ∉ ks) ∧ ∀ k ∈ wk, k ∉ r.ks) := by
  unfold pairInd at h
  cases h1 : (nilB wk && nilB r.wk) with
  | true =>
    simp only [Bool.and_eq_true] at h1
    have nil : ∀ {l : List Nat}, nilB l = true → l = [] := fun {l} h => by cases l <;> first | rfl | cases h
    right
    rw [nil h1.1, nil h1.2]
    exact ⟨fun k hk => (by cases hk), fun k hk => (by cases hk)⟩
  | false =>
    rw [h1] at h
    cases h2 : anc A j r.i with
    | true => exact .inl rfl
    | false =>
      rw [h2] at h
      cases h3 : disj wk r.ks with
      | false => rw [h3] at h; cases h
      | true =>
        rw [h3] at h
        exact .inr ⟨disj_spec (by simpa using h), disj_spec h3⟩
theorem indAll_spec {A : List Nat} {j : Nat} {ks wk : List Nat} : ∀ {l : List Rc}, indAll A j ks wk l = true → ∀ r ∈ l, anc A j r.i = true ∨ ((∀ k ∈ r.wk, k ∉ ks) ∧ ∀ k ∈ wk, k ∉ r.ks)
  | [], _, r, hr => by cases hr
  | c :: l, h, r, hr => by
    simp only [indAll] at h
    cases hc : pairInd A j ks wk c with
    | false => rw [hc] at h; cases h
    | true =>
      rw [hc] at h
      rcases List.mem_cons.1 hr with rfl | hr
      · exact pairInd_spec hc
      · exact indAll_spec h r hr

theorem keysOf_mem {get : Operand → AV} : ∀ {l : List Operand} {k : Nat}, k ∈ keysOf get l ↔ ∃ x ∈ l, k ∈ (get x).keys
  | [], k => by simp [keysOf]
  | x :: l, k => by simp [keysOf, keysOf_mem (l := l)]

def Traced (more : St → Oper → Kont → Prop) (P : Program) (N : Nat) (fx : List Nat) (ops : Array Oper) (A : List Nat) (K : St → Prop) (l : List Oper) (i : Nat) (recs : List Rc) (s : St) : Prop :=
  ∃ T : List Stp, T.length = l.length ∧ (∀ (y : Nat) (x : Stp), T[y]? = some x → x.i = i + y ∧ l[y]? = some x.o) ∧ TrOK more P N fx ops s T ∧ (∃ s', K s' ∧ SEq s' (fin s T)) ∧
      (∀ x ∈ T, ∀ r ∈ recs, anc A x.i r.i = true ∨ ((∀ k ∈ r.wk, k ∉ x.ks) ∧ ∀ k ∈ x.wk, k ∉ r.ks)) ∧ T.Pairwise (PairOK A)

section
variable {more : St → Oper → Kont → Prop} {P : Program} {N : Nat} {fx : List Nat} {ops : Array Oper}

theorem opsD_trace (hm : DetM more) {A : List Nat} {K : St → Prop} : ∀ {l : List Oper} {i : Nat} {recs : List Rc} {s : St}, opsD more P N fx ops.toList A l i recs s K → Traced more P N fx ops A K l i recs s
  | [], i, recs, s, h => ⟨[], rfl, by simp, trivial, ⟨s, h, SEq.refl s⟩, fun x hx => (by cases hx), .nil⟩
  | o :: l, i, recs, s, h => by
    change dStep more P N fx ops.toList A o (opsD more P N fx ops.toList A l) i recs s K at h
    -- what comes of a step that is made
    have run : ∀ s : St, dstOk N o.dst = true → (o.guard = none ∨ ∃ j want d, o.guard = some (j, want) ∧ (nth ops.toList j).bind (·.dst) = some d ∧ Nat.blt d N = true ∧ s.get d = .pure (.val (.bool want))) →
        (opVC true more P fx s o fun v acts => dNext A i recs s o v acts (opsD more P N fx ops.toList A l) K) → Traced more P N fx ops A K (o :: l) i recs s := fun s hd hg hv => by
      obtain ⟨v, acts, hk, hv⟩ := opVC_det (P := P) (fx := fx) (o := o) hm (s := s) (s' := s) ⟨fun _ _ => rfl, fun _ _ _ _ => rfl, fun _ _ h => h⟩ _ hv
      unfold dNext at hk
      split at hk
      · exact hk.elim
      rename_i wk hwk
      rw [forceL_eq, forceL_eq] at hk
      split at hk
      case h_2 => exact hk.elim
      rename_i hind
      rw [actsC_eq, putC_eq] at hk
      obtain ⟨T, t1, t2, t3, t4, t5, t6⟩ := opsD_trace hm hk
      let x : Stp := ⟨i, o, some (v, acts), wk ++ dstL o.dst ++ keysOf s.geto o.op.operands.toList, wk⟩
      refine ⟨x :: T, by simp [t1], fun y z hz => ?_, ⟨⟨hd, ?_, fun v' acts' e => ?_, fun e => (by cases e)⟩, t3⟩, t4, fun y hy r hr => ?_, List.pairwise_cons.2 ⟨fun y hy => ?_, t6⟩⟩
      · cases y with
        | zero => simp only [List.getElem?_cons_zero, Option.some.injEq] at hz; subst hz; exact ⟨rfl, rfl⟩
        | succ y =>
          obtain ⟨g1, g2⟩ := t2 y z (by simpa using hz)
          exact ⟨by omega, by simpa using g2⟩
      · rcases hg with hg | ⟨j, want, d, h1, h2, h3, h4⟩
        · exact .inl ⟨hg, rfl⟩
        · exact .inr ⟨j, want, d, want, h1, h2, h3, h4, by simp [x]⟩
      · simp only [x, Option.some.injEq, Prod.mk.injEq] at e
        obtain ⟨rfl, rfl⟩ := e
        refine ⟨hv, hwk, fun y hy k hk => ?_, fun k hk => ?_, fun d hd => ?_⟩
        · exact List.mem_append_right _ (keysOf_mem.2 ⟨y, by simpa using hy, hk⟩)
        · exact List.mem_append_left _ (List.mem_append_left _ hk)
        · refine List.mem_append_left _ (List.mem_append_right _ ?_)
          have : o.dst = some d := hd
          rw [this]; simp [dstL]
      · rcases List.mem_cons.1 hy with rfl | hy
        · exact indAll_spec hind r hr
        · exact t5 y hy r (List.mem_cons_of_mem _ hr)
      · exact t5 y hy ⟨i, _, wk⟩ List.mem_cons_self
    -- of a step that is passed over
    have skip : ∀ s : St, dstOk N o.dst = true → (∃ j want d b, o.guard = some (j, want) ∧ (nth ops.toList j).bind (·.dst) = some d ∧ Nat.blt d N = true ∧ s.get d = .pure (.val (.bool b)) ∧ (b == want) = false) →
        (putC s o.dst .junk fun s'' => opsD more P N fx ops.toList A l (i + 1) recs s'' K) → Traced more P N fx ops A K (o :: l) i recs s := fun s hd hg hv => by
      rw [putC_eq] at hv
      obtain ⟨T, t1, t2, t3, t4, t5, t6⟩ := opsD_trace hm hv
      let x : Stp := ⟨i, o, none, [], []⟩
      refine ⟨x :: T, by simp [t1], fun y z hz => ?_, ⟨⟨hd, ?_, fun v' acts' e => (by cases e), fun e => rfl⟩, t3⟩, t4, fun y hy r hr => ?_, List.pairwise_cons.2 ⟨fun y hy => ?_, t6⟩⟩
      · cases y with
        | zero => simp only [List.getElem?_cons_zero, Option.some.injEq] at hz; subst hz; exact ⟨rfl, rfl⟩
        | succ y =>
          obtain ⟨g1, g2⟩ := t2 y z (by simpa using hz)
          exact ⟨by omega, by simpa using g2⟩
      · obtain ⟨j, want, d, b, h1, h2, h3, h4, h5⟩ := hg
        exact .inr ⟨j, want, d, b, h1, h2, h3, h4, by simp [x, h5]⟩
      · rcases List.mem_cons.1 hy with rfl | hy
        · exact .inr ⟨fun k _ hk => (by cases hk), fun k hk => (by cases hk)⟩
        · exact t5 y hy r hr
      · exact .inr ⟨fun k hk => (by cases hk), fun k _ hk => (by cases hk)⟩
    unfold dStep at h
    split at h
    · exact h.elim
    rename_i hok
    split at h
    · rename_i hg
      exact run s hok (.inl hg) h
    · rename_i j want hg
      split at h
      · exact h.elim
      rename_i d hdst
      split at h
      · exact h.elim
      rename_i hdN
      split at h
      case h_2 => exact h.elim
      rename_i b hb
      have hb := boolOf_spec hb
      have hput : ∀ t : Bool, b = t → SEq (s.put d (.bool t)) s := fun t ht => ⟨fun i => by
        rw [St.get_put]
        by_cases e : d = i
        · subst e; rw [if_pos rfl, hb, ht]
        · rw [if_neg e], fun _ => rfl, fun _ => Iff.rfl⟩
      have conv : ∀ t : Bool, b = t → Traced more P N fx ops A K (o :: l) i recs (s.put d (.bool t)) → Traced more P N fx ops A K (o :: l) i recs s := by
        rintro t ht ⟨T, t1, t2, t3, ⟨s', t4, t4'⟩, t5, t6⟩
        obtain ⟨g1, g2⟩ := t3.congr hm (hput t ht)
        exact ⟨T, t1, t2, g1, ⟨s', t4, t4'.trans g2⟩, t5, t6⟩
      have hgp : ∀ t : Bool, (s.put d (.bool t)).get d = .pure (.val (.bool t)) := fun t => by rw [St.get_put, if_pos rfl]
      have hcs : ∀ t : Bool, s.put d (.bool t) = ⟨(d, .pure (.val (.bool t))) :: s.env, s.blks, s.used⟩ := fun _ => rfl
      obtain ⟨e, bl, u⟩ := s
      rcases bsel_elim h with ⟨e0, hv2⟩ | ⟨e0, hv2⟩
      · cases want with
        | true => exact conv true e0 (run _ hok (.inr ⟨j, true, d, hg, hdst, hdN, hgp true⟩) hv2)
        | false => exact conv true e0 (skip _ hok ⟨j, false, d, true, hg, hdst, hdN, hgp true, rfl⟩ hv2)
      · cases want with
        | true => exact conv false e0 (skip _ hok ⟨j, true, d, false, hg, hdst, hdN, hgp false, rfl⟩ hv2)
        | false => exact conv false e0 (run _ hok (.inr ⟨j, false, d, hg, hdst, hdN, hgp false⟩) hv2)
end

section
variable {more : St → Oper → Kont → Prop} {Γ : Ctx} {F : Fence} {n : Nat} {ops : Array Oper} {Q : Exit → Act → World → Prop}

theorem step_sound (hok : MoreOK more Γ) (hF : FOK F) {x : Stp} {s : St} {a : Act} {w : World} (hR : R Γ s a w) (hx : StpOK more Γ.P Γ.N Γ.fx ops s x) (hi : ops[x.i]? = some x.o) {K : Act → World → Prop} (hK : ∀ a' w', R Γ (x.next s) a' w' → K a' w') :
    wpOpIn F n Γ.P ops Q x.i K a w := by
  have hR0 := hR
  obtain ⟨X, β, h, g⟩ := hR
  unfold wpOpIn
  rw [hi]
  have hw : Region.wanted x.o (yielded ops a.tmps) = x.dec.isSome := by
    rcases hx.guard with ⟨h1, h2⟩ | ⟨j, want, d, b, h1, h2, h3, h4, h5⟩
    · rw [h2]; simp [Region.wanted, h1]
    · have hdlt : d < Γ.N := by simpa [Nat.blt_eq] using h3
      have hev : a.tmps.getD d undef = .bool b := by
        have := h.slots d
        rw [h4] at this
        exact this.val_inv
      have := wanted_of (a := a) (ops := ops.toList) h1 h2 (by rw [h.size]; exact hdlt) hev
      rw [h5, ← this]
  simp only [hw]
  cases hdec : x.dec with
  | none =>
    simp only [Option.isSome_none, Bool.false_eq_true, if_false]
    refine ⟨fun f _ => hF.fn f, hK _ _ ?_⟩
    simp only [Stp.next, hdec]
    exact R.putJ h g hx.dst
  | some p =>
    obtain ⟨v, acts⟩ := p
    simp only [Option.isSome_some, if_true]
    obtain ⟨h1, _⟩ := hx.run v acts hdec
    refine op_sound hok hF hR0 hx.dst h1 fun v' acts' a' w' e hR' => hK _ _ ?_
    obtain ⟨rfl, rfl⟩ := e
    simp only [Stp.next, hdec]
    exact hR'

theorem anc_in {D : Array Bool} (hcl : ∀ (i : Nat) (o : Oper), ops.toList[i]? = some o → D.getD i true = true → ∀ b ∈ binders o, D.getD b true = true) {j i : Nat} (h : Anc ops.toList j i) :
    (∀ o, ops.toList[j]? = some o → ∀ b ∈ binders o, D.getD b true = true) → D.getD i true = true := by
  induction h with
  | one ho hb => exact fun hj => hj _ ho _ hb
  | step ho hb _ ih => exact fun hj => ih fun o' ho' => hcl _ o' ho' (hj _ ho _ hb)

theorem mem_ready {D : Array Bool} {i : Nat} : i ∈ Region.ready .any ops D ↔ ∃ o, ops[i]? = some o ∧ D.getD i true = false ∧ ∀ b ∈ binders o, D.getD b false = true := by
  unfold Region.ready
  simp only [List.mem_filter, List.mem_range, Bool.and_eq_true, Bool.not_eq_true']
  constructor
  · rintro ⟨h1, h2, h3⟩
    have ho : ops[i]? = some ops[i] := Array.getElem?_eq_getElem h1
    rw [ho] at h3
    simp only [Option.map_some, Option.getD_some, Array.all_eq_true', Bool.or_eq_true, Bool.not_eq_true'] at h3
    refine ⟨_, ho, h2, fun b hb => ?_⟩
    simp only [binders, List.mem_map, List.mem_filter, Array.mem_toList_iff] at hb
    obtain ⟨e, ⟨he, hbn⟩, rfl⟩ := hb
    rcases h3 e he with h | h
    · rw [binds_any, hbn] at h; cases h
    · exact h
  · rintro ⟨o, ho, h2, h3⟩
    refine ⟨(Array.getElem?_eq_some_iff.1 ho).1, h2, ?_⟩
    rw [ho]
    simp only [Option.map_some, Option.getD_some, Array.all_eq_true', Bool.or_eq_true, Bool.not_eq_true']
    intro e he
    cases hb : bnd e.ground with
    | false => exact .inl (by rw [binds_any]; exact hb)
    | true => exact .inr (h3 e.on (by simp only [binders, List.mem_map, List.mem_filter, Array.mem_toList_iff]; exact ⟨e, ⟨he, hb⟩, rfl⟩))

theorem draw_any (hm : DetM more) (hok : MoreOK more Γ) (hF : FOK F) (hst : drawOK ops = true) : ∀ (fuel : Nat) (L : List Stp) (D : Array Bool) (s : St) (a : Act) (w : World), D.size = ops.size → L.length = fuel → (∀ x ∈ L, ops[x.i]? = some x.o) →
    (∀ i, i < ops.size → (D.getD i true = false ↔ ∃ x ∈ L, x.i = i)) → L.Pairwise (fun x y => x.i < y.i) →
    (∀ (i : Nat) (o : Oper), ops.toList[i]? = some o → D.getD i true = true → ∀ b ∈ binders o, D.getD b true = true) → TrOK more Γ.P Γ.N Γ.fx ops s L → L.Pairwise (PairOK (ancs ops.toList)) → R Γ s a w →
    (∀ a' w', R Γ (fin s L) a' w' → Q .normal a' w') → wpAnyIn F n Γ.P .any ops Q fuel D a w
  | 0, L, D, s, a, w, hDs, hL, hops, hD, hsort, hcl, htr, hpw, hR, hQ => by
    have : L = [] := List.length_eq_zero_iff.1 hL
    subst this
    refine ⟨?_, hQ a w hR⟩
    rw [List.eq_nil_iff_forall_not_mem]
    intro i hi
    obtain ⟨o, ho, h2, _⟩ := mem_ready.1 hi
    obtain ⟨x, hx, _⟩ := (hD i (Array.getElem?_eq_some_iff.1 ho).1).1 h2
    cases hx
  | fuel + 1, L, D, s, a, w, hDs, hL, hops, hD, hsort, hcl, htr, hpw, hR, hQ => by
    have lt : ∀ {x : Stp}, x ∈ L → x.i < ops.size := fun hx => (Array.getElem?_eq_some_iff.1 (hops _ hx)).1
    have tf : ∀ {b : Nat}, D.getD b true = true → b < ops.size → D.getD b false = true := fun {b} h hb => by
      rw [Array.getD_eq_getD_getElem?, Array.getElem?_eq_getElem (by omega)] at h ⊢
      exact h
    have ft : ∀ {b : Nat}, D.getD b false = true → D.getD b true = true := fun {b} h => by
      rw [Array.getD_eq_getD_getElem?] at h ⊢
      cases hb : D[b]? with
      | none => rw [hb] at h; cases h
      | some x => rw [hb] at h; exact h
    refine ⟨fun hr => ?_, fun i hi => ?_⟩
    · cases L with
      | nil => cases hL
      | cons x L =>
        have hx := hops x List.mem_cons_self
        have : x.i ∈ Region.ready .any ops D := by
          refine mem_ready.2 ⟨x.o, hx, (hD _ (lt List.mem_cons_self)).2 ⟨x, List.mem_cons_self, rfl⟩, fun b hb => ?_⟩
          have hbx := (drawOK_spec hst (by simpa using hx)).1 b hb
          have hbs : b < ops.size := Nat.lt_trans hbx (lt List.mem_cons_self)
          refine tf ?_ hbs
          cases hDb : D.getD b true with
          | true => rfl
          | false =>
            obtain ⟨y, hy, hyb⟩ := (hD b hbs).1 hDb
            rcases List.mem_cons.1 hy with rfl | hy
            · omega
            · have := (List.pairwise_cons.1 hsort).1 y hy
              omega
        rw [hr] at this
        cases this
    · obtain ⟨o, ho, h2, h3⟩ := mem_ready.1 hi
      have his := (Array.getElem?_eq_some_iff.1 ho).1
      obtain ⟨y, hy, rfl⟩ := (hD i his).1 h2
      obtain ⟨l1, l2, rfl⟩ := List.append_of_mem hy
      have hyo := hops y hy
      have hoo : y.o = o := by rw [ho] at hyo; exact (Option.some.inj hyo).symm
      have hsi : ∀ x ∈ l1, SInd ops x y := fun x hx => by
        have hxl : x ∈ l1 ++ y :: l2 := List.mem_append_left _ hx
        have hlt : x.i < y.i := (List.pairwise_append.1 hsort).2.2 x hx y List.mem_cons_self
        have hna : anc (ancs ops.toList) y.i x.i = true → False := fun ha => by
          have hin := anc_in hcl (anc_spec ha) fun o' ho' b hb => by
            have : o' = o := by
              rw [Array.getElem?_toList] at ho'
              rw [ho] at ho'
              exact (Option.some.inj ho').symm
            subst this
            exact ft (h3 b hb)
          have := (hD x.i (lt hxl)).2 ⟨x, hxl, rfl⟩
          rw [hin] at this
          cases this
        have hp := (List.pairwise_append.1 hpw).2.2 x hx y List.mem_cons_self
        have hk := hp.resolve_left hna
        have hap := ((drawOK_spec hst (by simpa using hyo)).2 x.i x.o (by simpa using hops x hxl) hlt).resolve_left hna
        exact ⟨hap, hk.1, hk.2⟩
      obtain ⟨⟨g1, g2⟩, g3⟩ := htr.front hm hsi
      refine step_sound hok hF hR g1 hyo fun a' w' hR' => ?_
      have hnd : ∀ x ∈ l1 ++ l2, x.i ≠ y.i := fun x hx => by
        rcases List.mem_append.1 hx with hx | hx
        · have := (List.pairwise_append.1 hsort).2.2 x hx y List.mem_cons_self
          omega
        · have := (List.pairwise_cons.1 (List.pairwise_append.1 hsort).2.1).1 x hx
          omega
      have hget : ∀ b, (D.setIfInBounds y.i true).getD b true = if y.i = b then true else D.getD b true := fun b => by
        simp only [Array.getD_eq_getD_getElem?, Array.getElem?_setIfInBounds]
        by_cases e : y.i = b
        · subst e
          have hys : y.i < D.size := by omega
          simp [hys]
        · simp [e]
      refine draw_any hm hok hF hst fuel (l1 ++ l2) (D.setIfInBounds y.i true) (y.next s) a' w' (by simpa using hDs) (by simp at hL ⊢; omega) (fun x hx => hops x ?_) (fun b hb => ?_) ?_ (fun b o' ho' hb c hc => ?_) g2 ?_ hR' fun a'' w'' hR'' => hQ a'' w'' (hR''.seq g3)
      · rcases List.mem_append.1 hx with hx | hx
        · exact List.mem_append_left _ hx
        · exact List.mem_append_right _ (List.mem_cons_of_mem _ hx)
      · rw [hget]
        by_cases e : y.i = b
        · rw [if_pos e]
          constructor
          · intro h; cases h
          · rintro ⟨x, hx, hxb⟩
            exact absurd (hxb.trans e.symm) (hnd x hx)
        · rw [if_neg e, hD b hb]
          constructor
          · rintro ⟨x, hx, hxb⟩
            refine ⟨x, ?_, hxb⟩
            rcases List.mem_append.1 hx with hx | hx
            · exact List.mem_append_left _ hx
            · rcases List.mem_cons.1 hx with rfl | hx
              · exact absurd hxb e
              · exact List.mem_append_right _ hx
          · rintro ⟨x, hx, hxb⟩
            refine ⟨x, ?_, hxb⟩
            rcases List.mem_append.1 hx with hx | hx
            · exact List.mem_append_left _ hx
            · exact List.mem_append_right _ (List.mem_cons_of_mem _ hx)
      · obtain ⟨p1, p2, p3⟩ := List.pairwise_append.1 hsort
        exact List.pairwise_append.2 ⟨p1, (List.pairwise_cons.1 p2).2, fun x hx z hz => p3 x hx z (List.mem_cons_of_mem _ hz)⟩
      · rw [hget]
        by_cases e : y.i = c
        · rw [if_pos e]
        · rw [if_neg e]
          rw [hget] at hb
          by_cases e' : y.i = b
          · subst e'
            have : o' = o := by
              rw [Array.getElem?_toList] at ho'
              rw [ho] at ho'
              exact (Option.some.inj ho').symm
            subst this
            exact ft (h3 c hc)
          · rw [if_neg e'] at hb
            exact hcl b o' ho' hb c hc
      · obtain ⟨p1, p2, p3⟩ := List.pairwise_append.1 hpw
        exact List.pairwise_append.2 ⟨p1, (List.pairwise_cons.1 p2).2, fun x hx z hz => p3 x hx z (List.mem_cons_of_mem _ hz)⟩

/-- A region whose order of evaluation is open. -/
theorem Wp.draw (hm : DetM more) (hok : MoreOK more Γ) (hF : FOK F) {id : Nat} {s : St} {K : Exit → St → Prop} (hfol : Γ.P.follows .mixedOrders = true) (hst : drawOK ops = true)
    {A : List Nat} (hA : ancs ops.toList = A) (h : opsD more Γ.P Γ.N Γ.fx ops.toList A ops.toList 0 [] s (K .normal)) : Wp Γ F n (.region id ops true) s K := by
  subst hA
  intro a w hR
  obtain ⟨T, t1, t2, t3, ⟨s', t4, t4'⟩, t5, t6⟩ := opsD_trace hm h
  have hidx : ∀ x ∈ T, ∃ y, T[y]? = some x := fun x hx => by
    obtain ⟨y, hy, e⟩ := List.getElem_of_mem hx
    exact ⟨y, by rw [List.getElem?_eq_getElem hy, e]⟩
  refine wpIn_region_any hfol (draw_any hm hok hF hst ops.size T _ s a { w with drawn := w.drawn + 1 } (by simp) (by rw [t1]; simp) (fun x hx => ?_) (fun i hi => ?_) ?_ (fun i o ho hi => ?_) t3 t6 ?_ fun a' w' hR' => ⟨s', t4, hR'.seq t4'⟩)
  · obtain ⟨y, hy⟩ := hidx x hx
    obtain ⟨g1, g2⟩ := t2 y x hy
    rw [Nat.zero_add] at g1
    rw [g1]
    simpa using g2
  · have hf : (Array.replicate ops.size false).getD i true = false := by simp [Array.getD, hi]
    constructor
    · intro _
      have hiT : i < T.length := by rw [t1]; simpa using hi
      refine ⟨T[i], List.getElem_mem hiT, ?_⟩
      have := (t2 i T[i] (List.getElem?_eq_getElem hiT)).1
      omega
    · intro _; exact hf
  · rw [List.pairwise_iff_getElem]
    intro x y hx hy hlt
    have h1 := (t2 x T[x] (List.getElem?_eq_getElem hx)).1
    have h2 := (t2 y T[y] (List.getElem?_eq_getElem hy)).1
    omega
  · have his : i < ops.size := by
      have := (List.getElem?_eq_some_iff.1 ho).1
      simpa using this
    have hf : (Array.replicate ops.size false).getD i true = false := by simp [Array.getD, his]
    rw [hf] at hi
    cases hi
  · obtain ⟨X, β, hr, g⟩ := hR
    exact ⟨X, β, hr.heap rfl rfl rfl rfl, g.sub, g.old, fun hon i t hi => Γ.y.stable i t X _ _ w _ (g.gh hon i t hi) ⟨rfl, rfl, rfl, Nat.le_refl _, fun _ _ _ => rfl⟩ (by rintro b ⟨k, bi, hk, hv, rfl⟩; exact ⟨.inl ⟨k, bi, hk, hv, rfl⟩, hr.lt k bi hk hv⟩), g.lone, g.nd, g.marks⟩
end
end Go.Avc
