/- Operations, regions, code and functions: their conditions suffice. Conditions: none. -/
import Derived.Test.YtmkkfgifeekgeaaVcI
namespace Go.Avc
open Go.RowKit

/-- The operations that come in by 'more' are sound, too. -/
def MoreOK0 (more : St → Oper → Kont → Prop) (Γ : Ctx) : Prop :=
  ∀ (F : Fence) (_ : FOK F) (n : Nat) (s : St) (a : Act) (w : World) (β : BM) (o : Oper) (K : Kont), more s o K → Rl Γ s a.tmps w β → dstOk Γ.N o.dst = true →
    ∀ (next : Act → World → Prop) (Q : Exit → Act → World → Prop), (∀ v acts a' w', K v acts → R0 Γ a.defers ((s.acts acts).putD o.dst v) a' w' → next a' w') → o.wpIn F n Γ.P a w next Q
def MoreOK (more : St → Oper → Kont → Prop) (Γ : Ctx) : Prop := ∀ X w β, MoreOK0 more (Γ.here X w β)

theorem MoreOK.none (Γ : Ctx) : MoreOK (fun _ _ _ => False) Γ := fun _ _ _ _ _ _ _ _ _ _ _ _ h => h.elim

section
variable {more : St → Oper → Kont → Prop} {Γ : Ctx} {F : Fence} {n : Nat} {s : St} {a : Act} {w : World} {β : BM}

theorem guardNew_spec {d : Nat} {used fx : List Nat} {p : Prop} (h : guardNew d used fx p) : d ∉ used ∧ d ∉ fx ∧ p := by
  unfold guardNew at h
  split at h
  · rename_i h1
    split at h
    · rename_i h2
      exact ⟨freshIn_spec h1, freshIn_spec h2, h⟩
    · exact h.elim
  · exact h.elim

theorem op_sound0 (hm : MoreOK0 more Γ) (hF : FOK F) (h : Rl Γ s a.tmps w β) {o : Oper} (ho : dstOk Γ.N o.dst = true) {K : Kont} {md : Bool} (hK : opVC md more Γ.P Γ.fx s o K)
    {next : Act → World → Prop} {Q : Exit → Act → World → Prop} (hk : ∀ v acts a' w', K v acts → R0 Γ a.defers ((s.acts acts).putD o.dst v) a' w' → next a' w') : o.wpIn F n Γ.P a w next Q := by
  have hd : a.defers = a.defers := rfl
  have fin : ∀ (S : Sem Value), (execOp a.eval o) = (do pure (.value (← S))) → (∀ c, o.op ≠ .defer c) → Out Γ s a.tmps K (S.run Γ.P w) → o.wpIn F n Γ.P a w next Q := by
    rintro S he hnd ⟨v, acts, u, w', β', hKv, hr, hR, hv, hkv⟩
    refine wpIn_of_run hF hnd (v := u) (w' := w') ?_ (hk v acts _ w' hKv (putD_R hd hR ho hv hkv))
    rw [he, Sem.run_bind, hr, Result.andThen_ok]
    rfl
  unfold opVC at hK
  split at hK
  · rename_i x hx
    rw [force_eq] at hK
    refine wpIn_of_run hF (by rw [hx]; intro c; simp) (v := a.eval x) (w' := w) (by simp [execOp, hx]) (hk _ [] _ w hK (putD_R hd h ho (geto_AR h x) (geto_keys h x)))
  · rename_i x hx
    rw [force_eq] at hK
    refine wpIn_of_run hF (by rw [hx]; intro c; simp) (v := a.eval x) (w' := w) (by simp [execOp, hx]) (hk _ [] _ w hK (putD_R hd h ho (geto_AR h x) (geto_keys h x)))
  · rename_i c x y hx
    unfold opPick at hK
    split at hK
    · rename_i t hc
      have hev : a.eval c = .bool t := by
        have := geto_AR h c
        rw [hc] at this
        exact this.val_inv
      rw [force_eq, force_eq] at hK
      rcases bsel_elim hK with ⟨rfl, hK⟩ | ⟨rfl, hK⟩
      · exact wpIn_of_run hF (by rw [hx]; intro c; simp) (v := a.eval x) (w' := w) (by simp [execOp, hx, hev, asBool]) (hk _ [] _ w hK (putD_R hd h ho (geto_AR h x) (geto_keys h x)))
      · exact wpIn_of_run hF (by rw [hx]; intro c; simp) (v := a.eval y) (w' := w) (by simp [execOp, hx, hev, asBool]) (hk _ [] _ w hK (putD_R hd h ho (geto_AR h y) (geto_keys h y)))
    · exact hK.elim
  · rename_i t hx
    split at hK
    · rename_i d hdd
      obtain ⟨h1, h2, hK⟩ := guardNew_spec hK
      exact fin _ (by simp only [execOp, hx]) (by rw [hx]; intro c; simp) (alloc_sound h h1 h2 hK)
    · exact hK.elim
  · rename_i t x hx
    split at hK
    · rename_i d hdd
      obtain ⟨h1, h2, hK⟩ := guardNew_spec hK
      exact fin _ (by simp only [execOp, hx]) (by rw [hx]; intro c; simp) (box_sound h h1 h2 (geto_AR h x) (geto_keys h x) hK)
    · exact hK.elim
  · rename_i t x hx
    exact fin _ (by simp only [execOp, hx]) (by rw [hx]; intro c; simp) ((load_sound h (geto_AR h x) hK).out h)
  · rename_i t x v hx
    obtain ⟨acts, w', β', hKv, hr, hR⟩ := store_sound h (geto_AR h x) (geto_AR h v) (geto_keys h v) hK
    refine wpIn_of_skip hF (by rw [hx]; intro c; simp) (w' := w') ?_ (hk .junk acts _ w' hKv (putD_R hd hR ho (.junk _) (by simp [AV.keys])))
    simp [execOp, hx, hr]
  · rename_i t x f hx
    exact fin _ (by simp only [execOp, hx]) (by rw [hx]; intro c; simp) (fieldAddr_sound h (geto_AR h x) (geto_keys h x) hK)
  · rename_i t x i hx
    exact fin _ (by simp only [execOp, hx]) (by rw [hx]; intro c; simp) (indexAddr_sound h (geto_AR h x) (geto_AR h i) (geto_keys h x) hK)
  · rename_i t x f hx
    exact fin _ (by simp only [execOp, hx]) (by rw [hx]; intro c; simp) (field_sound h (geto_AR h x) (geto_keys h x) hK)
  · rename_i t x i hx
    exact fin _ (by simp only [execOp, hx]) (by rw [hx]; intro c; simp) (index_sound h (geto_AR h x) (geto_AR h i) (geto_keys h x) hK)
  · rename_i op t x y yt hx
    split at hK
    · exact hK.elim
    exact fin (binRun op t x y (a.eval x) (a.eval y)) (by simp only [execOp, hx]; rfl) (by rw [hx]; intro c; simp) (bin_sound h (geto_AR h x) (geto_AR h y) hK)
  · rename_i op t x hx
    exact fin _ (by simp only [execOp, hx]) (by rw [hx]; intro c; simp) (un_sound h (geto_AR h x) hK)
  · rename_i x i hx
    exact fin _ (by simp only [execOp, hx]) (by rw [hx]; intro c; simp) (extract_sound h (geto_AR h x) (geto_keys h x) hK)
  · rename_i f first captured hx
    split at hK
    · rename_i hfirst
      have e1 : first = #[] := Array.toList_inj.1 (by simpa using hfirst)
      subst e1
      refine fin (Instr.makeFunc (.func f) (#[].map a.eval) (captured.map a.eval)) (by simp only [execOp, hx]) (by rw [hx]; intro c; simp) ?_
      refine Out.same h hK (u := .func (.func f) #[] (captured.map a.eval)) (by simp [Instr.makeFunc]) ?_ ?_
      · refine .fn _ _ _ (by simp) fun j p hj => ?_
        simp only [List.getElem?_map, Option.map_eq_some_iff, Array.getElem?_toList] at hj
        obtain ⟨y, hy, rfl⟩ := hj
        have e : (captured.map a.eval).getD j undef = a.eval y := by rw [Array.getD_eq_getD_getElem?, Array.getElem?_map, hy]; rfl
        rw [e]
        exact geto_AR h y
      · intro k hk
        simp only [AV.keys] at hk
        obtain ⟨x, hx, hkx⟩ := AV.mem_keysL.1 hk
        obtain ⟨y, _, rfl⟩ := List.mem_map.1 hx
        exact geto_keys h y k hkx
    · exact hK.elim
  · rename_i c hx
    split at hK
    · rename_i hc
      split at hK
      · rename_i x t hargs hts
        split at hK
        case h_2 => exact hK.elim
        rename_i hlv
        have e1 : c.args = #[x] := Array.toList_inj.1 (by simpa using hargs)
        have e2 : c.argTypes = #[t] := Array.toList_inj.1 (by simpa using hts)
        refine fin (Builtin.len_ #[t] o.type #[a.eval x]) ?_ (by rw [hx]; intro c; simp) (len_sound h (geto_AR h x) hlv hK)
        simp only [execOp, hx, resolve, hc, e1, e2, invoke, builtin]
        simp
      · exact hK.elim
    · rename_i f hc
      split at hK
      · rename_i g cs hg
        split at hK
        · exact call_sound hF h hx hc hg hK fun v acts u w' β' hKv hR hv hkv => hk v acts _ w' hKv (putD_R hd hR ho hv hkv)
        · rcases hK with hK | hK
          · exact call_sound hF h hx hc hg hK fun v acts u w' β' hKv hR hv hkv => hk v acts _ w' hKv (putD_R hd hR ho hv hkv)
          · exact callG_sound hF h hx hc hg hK fun v acts u w' β' hKv hR hv hkv => hk v acts _ w' hKv (putD_R hd hR ho hv hkv)
      · exact hm F hF n s a w β o K hK h ho next Q hk
    · exact hm F hF n s a w β o K hK h ho next Q hk
  · exact hm F hF n s a w β o K hK h ho next Q hk

theorem wanted_of {ops : List Oper} {o : Oper} {j d : Nat} {want b : Bool} (hg : o.guard = some (j, want)) (hj : (nth ops j).bind (·.dst) = some d) (hd : d < a.tmps.size) (hb : a.tmps.getD d undef = .bool b) : Region.wanted o (yielded ops.toArray a.tmps) = (b == want) := by
  rw [nth_eq] at hj
  have : yielded ops.toArray a.tmps j = some b := by
    simp only [yielded, List.getElem?_toArray, hj, Option.bind_some]
    rw [Array.getElem?_eq_getElem hd]
    rw [Array.getD_eq_getD_getElem?, Array.getElem?_eq_getElem hd] at hb
    simp only [Option.getD_some] at hb
    rw [hb]
  simp only [Region.wanted, hg, this]
  cases b <;> cases want <;> rfl

/-- The same relation, as if the call began here. -/
theorem Rl.rebase (h : Rl Γ s a.tmps w β) (X : Nat → Prop) (hX : Γ.X = X) : Rl (Γ.here X w β) s a.tmps w β := by
  subst hX
  exact { h with own := fun k bi hb hv => .inr ⟨k, bi, hb, hv, rfl⟩, fixd := fun _ _ => rfl, keep := Kp.refl _ _ }

theorem AV.fz_gh {k : Nat} {c : Blk} {v : AV} {i : Nat} {t : Bool} (h : v.fz k c = .gh i t) : v = .gh i t := by
  cases v with
  | gh => exact h
  | loc k' i' j =>
    cases c with
    | row => simp [AV.fz] at h
    | box cs =>
      cases i' with
      | succ => simp [AV.fz] at h
      | zero =>
        simp only [AV.fz] at h
        cases hb : Nat.beq k' k with
        | false => rw [hb] at h; cases h
        | true =>
          rw [hb] at h
          simp only [cond_true] at h
          split at h <;> cases h
  | lsl k' i' n =>
    cases c with
    | box => simp [AV.fz] at h
    | row =>
      simp only [AV.fz] at h
      cases hb : Nat.beq k' k with
      | false => rw [hb] at h; cases h
      | true => rw [hb] at h; cases h
  | junk => simp [AV.fz] at h
  | pure => simp [AV.fz] at h
  | agg => simp [AV.fz] at h
  | fn => simp [AV.fz] at h
  | tup => simp [AV.fz] at h
theorem freeze_gh {s : St} {k t i : Nat} {b : Bool} (h : (s.freeze k).get t = .gh i b) : s.get t = .gh i b := by
  by_cases hk : FzOK s.blk k
  · obtain ⟨c, h1, h2⟩ := hk
    rw [freeze_ok h1 h2, frzW_get] at h
    exact AV.fz_gh h
  · rwa [freeze_other hk] at h
theorem acts_gh : ∀ {l : List BAct} {s : St} {t i : Nat} {b : Bool}, (s.acts l).get t = .gh i b → s.get t = .gh i b
  | [], _, _, _, _, h => h
  | act :: l, s, t, i, b, h => by
    have := acts_gh (l := l) (s := s.act act) h
    cases act with
    | set => exact this
    | new => exact this
    | kill => exact this
    | frz k => exact freeze_gh this
theorem putD_gh {s : St} {d : Option Tmp} {v : AV} {N i : Nat} {b : Bool} (hd : dstOk N d = true) (h : (s.putD d v).get N = .gh i b) : s.get N = .gh i b := by
  cases d with
  | none => exact h
  | some d =>
    have : d < N := by simpa [dstOk, Nat.blt_eq] using hd
    have hne : ¬ d = N := Nat.ne_of_lt this
    rw [St.putD, St.get_put, if_neg hne] at h
    exact h

/-- A step that is sound for a call that begins here is sound for the call that began before. -/
theorem R.step {s' : St} {a' : Act} {w' : World} {X : Nat → Prop} (h : Rl (Γ.atX X) s a.tmps w β) (g : Gh Γ X β s a.defers w) (h' : R0 (Γ.here X w β) a.defers s' a' w') (hg : ∀ i t, s'.get Γ.N = .gh i t → s.get Γ.N = .gh i t) : R Γ s' a' w' := by
  obtain ⟨hd, β', h'⟩ := h'
  have hold : ∀ b, b < Γ.w0.heap.size → ¬ Ex Γ.β0 b → ¬ Ex β b := fun b hb he => by
    rintro ⟨k, bi, hk, hv, rfl⟩
    rcases h.own k bi hk hv with h1 | h1
    · have : Γ.w0.heap.size ≤ bi.b := h1
      omega
    · exact he h1
  refine ⟨X, β', ?_, g.sub, g.old, fun hon i t hi => ?_, by rw [hd]; exact g.lone, by rw [hd]; exact g.nd, fun d hm => ?_⟩
  · exact
    { h' with
      own := fun k bi hb hv => by
        rcases h'.own k bi hb hv with h1 | ⟨j, bj, hj, hvj, e⟩
        · exact .inl (Nat.le_trans h.keep.size h1)
        · have := h.own j bj hj hvj
          rwa [e] at this
      fixd := fun k hk => (h'.fixd k hk).trans (h.fixd k hk)
      keep := ⟨h'.keep.os.trans h.keep.os, h'.keep.tape.trans h.keep.tape, h'.keep.output.trans h.keep.output, Nat.le_trans h.keep.size h'.keep.size, fun b hb he => (h'.keep.block b (Nat.lt_of_lt_of_le hb h.keep.size) (hold b hb he)).trans (h.keep.block b hb he)⟩ }
  · refine Γ.y.stable i t X _ _ w w' (g.gh hon i t (hg i t hi)) h'.keep ?_
    rintro b ⟨k, bi, hk, hv, rfl⟩
    exact ⟨(h'.own k bi hk hv).symm, h'.lt k bi hk hv⟩
  · rw [hd] at hm
    obtain ⟨D, h1, h2, h3, h4⟩ := g.marks d hm
    have hlt : D < w.heap.size := (Array.getElem?_eq_some_iff.1 h2).1
    refine ⟨D, h1, (h'.keep.block D hlt ?_).trans h2, h3, h4⟩
    rintro ⟨k, bi, hk, hv, rfl⟩
    exact h.notX k bi hk hv h4

theorem op_sound (hm : MoreOK more Γ) (hF : FOK F) (hR : R Γ s a w) {o : Oper} (ho : dstOk Γ.N o.dst = true) {K : Kont} {md : Bool} (hK : opVC md more Γ.P Γ.fx s o K)
    {next : Act → World → Prop} {Q : Exit → Act → World → Prop} (hk : ∀ v acts a' w', K v acts → R Γ ((s.acts acts).putD o.dst v) a' w' → next a' w') : o.wpIn F n Γ.P a w next Q := by
  obtain ⟨X, β, h, g⟩ := hR
  refine op_sound0 (Γ := Γ.here X w β) (hm X w β) hF (h.rebase X rfl) ho hK fun v acts a' w' hKv h' => hk v acts a' w' hKv (R.step h g h' fun i t hi => acts_gh (putD_gh ho hi))

/-- The blocks that are not the function's own have turned. -/
theorem Rl.others {X X' : Nat → Prop} {w' : World} {tm : Array Value} (h : Rl (Γ.atX X) s tm w β) {E : Nat → Prop} (hk : Kp E w w') (hE : ∀ b, E b → X b) (hx : ∀ b, b < Γ.w0.heap.size → E b → Ex Γ.β0 b)
    (hX' : ∀ b, b < w.heap.size → X' b → X b) (hlt : ∀ b, X' b → b < w'.heap.size) : Rl (Γ.atX X') s tm w' β := by
  have hav : ∀ b, b < w.heap.size → Av X' β b → Av X β b := fun b hb hA => by
    rcases hA with hA | hA
    · exact .inl (hX' b hb hA)
    · exact .inr hA
  have had : Ad w (Av X β) w' (Av X' β) := ⟨hk.size, fun b hb hA => ⟨hk.block b hb fun hx => hA (.inl (hE b hx)), fun hA' => hA (hav b hb hA')⟩⟩
  exact
  { size := h.size
    slots := fun t => (h.slots t).mono had fun _ _ => rfl
    blks := fun k => by
      have hb := h.blks k
      cases hs : s.blk k with
      | none =>
        rw [hs] at hb
        cases hβ : β k with
        | none => trivial
        | some bi => rw [hβ] at hb; exact hb.elim
      | some blk =>
        rw [hs] at hb
        cases hβ : β k with
        | none => rw [hβ] at hb; exact hb.elim
        | some bi =>
          rw [hβ] at hb
          exact BOK.mono had hb (fun _ _ => rfl) fun hv => hk.block _ (h.lt k bi hβ hv) fun he => h.notX k bi hβ hv (hE _ he)
    inj := h.inj
    lt := fun k bi hb hv => Nat.lt_of_lt_of_le (h.lt k bi hb hv) hk.size
    notX := fun k bi hb hv hx => h.notX k bi hb hv (hX' _ (h.lt k bi hb hv) hx)
    own := h.own
    fixd := h.fixd
    used1 := h.used1
    used2 := h.used2
    keep := ⟨hk.os.trans h.keep.os, hk.tape.trans h.keep.tape, hk.output.trans h.keep.output, Nat.le_trans h.keep.size hk.size, fun b hb he => (hk.block b (Nat.lt_of_lt_of_le hb h.keep.size) fun hx' => he (hx b hb hx')).trans (h.keep.block b hb he)⟩
    Xlt := hlt }

/-- What an iterator counts lies in no slot. -/
theorem Rl.putG {tm : Array Value} (h : Rl Γ s tm w β) (i : Nat) (t : Bool) : Rl Γ (s.put Γ.N (.gh i t)) tm w β :=
  { h with
    slots := fun j => by
      rw [St.get_put]
      by_cases e : Γ.N = j
      · rw [if_pos e]; exact .gh _ _ _
      · rw [if_neg e]; exact h.slots j
    used1 := fun j k hk => by
      rw [St.get_put] at hk
      by_cases e : Γ.N = j
      · rw [if_pos e] at hk; simp [AV.keys] at hk
      · rw [if_neg e] at hk; exact h.used1 j k hk }

theorem isYld_spec {o : Oper} {l : Nat} {args : List Operand} (h : isYld s o = some (l, args)) : ∃ c fo, o.op = .call c ∧ c.callee = .value fo ∧ s.geto fo = .pure (.val (.func (.yield l) #[] #[])) ∧ args = c.args.toList := by
  unfold isYld at h
  split at h
  · rename_i c hc
    split at h
    · rename_i fo hfo
      split at h
      · rename_i l' x y hg
        split at h
        · rename_i hx hy
          cases h
          have e1 : x = #[] := Array.toList_inj.1 (by simpa using hx)
          have e2 : y = #[] := Array.toList_inj.1 (by simpa using hy)
          subst e1; subst e2
          exact ⟨c, fo, hc, hfo, hg, rfl⟩
        · cases h
      · cases h
    · cases h
  · cases h

theorem yld_sound (hF : FOK F) (hR : R Γ s a w) {o : Oper} {l : Nat} {args : List Operand} {d : Tmp} (hy : isYld s o = some (l, args)) (ho : o.dst = some d) {C : St → Prop} {md : Bool} (hK : yldVC md Γ.y Γ.N Γ.fx s l args d C)
    {next : Act → World → Prop} {Q : Exit → Act → World → Prop} (hk : ∀ s' a' w', C s' → R Γ s' a' w' → next a' w') : o.wpIn F n Γ.P a w next Q := by
  unfold yldVC at hK
  split at hK
  · exact hK.elim
  split at hK
  · exact hK.elim
  rename_i hdN
  have hdN : d < Γ.N := by simpa [Nat.blt_eq] using hdN
  split at hK
  case h_2 => exact hK.elim
  rename_i i hgi
  split at hK
  case h_2 => exact hK.elim
  rename_i ps hps
  obtain ⟨hdj, rfl, hon, ⟨row, hrow, hsub⟩, hK⟩ := hK
  obtain ⟨c, fo, hop, hcal, hval, rfl⟩ := isYld_spec hy
  obtain ⟨X, β, h, g⟩ := hR
  have hX := Γ.hy hon
  obtain ⟨β1, f1, f2, f3, f4⟩ := freezes h (l := AV.keysL (c.args.toList.map s.geto)) (disj_spec hdj)
  have harg := args_AR (Γ := Γ.atX X) h (c := c) (cs := []) (vs := #[]) (fun j p hj => by simp at hj)
  simp only [List.append_nil, Array.append_empty] at harg
  have hpr := freezes_PRL h harg (fun k hk => hk) hps f3 f4
  have hev : a.eval fo = .func (.yield Γ.y.l) #[] #[] := by
    have := geto_AR h fo
    rw [hval] at this
    exact this.val_inv
  obtain ⟨sl, sg⟩ := hsub.get
  have hpl := (toPVL_some hps).1
  have hJ1 : Γ.y.J i false X (Ex β1) w := Γ.y.stable i false X _ _ w w (g.gh hon i false hgi) (Kp.refl _ _) (by
    rintro b ⟨k, bi, hk, hv, rfl⟩
    exact ⟨.inl ⟨k, bi, f3 k bi hk, hv, rfl⟩, f1.lt k bi hk hv⟩)
  have hround := Γ.y.round i row X (Ex β1) w (c.args.map a.eval) hon hrow hJ1 h.Xlt (by simp at hpl ⊢; omega) (fun j q hj => by
    obtain ⟨p, hp, hpq⟩ := sg j q hj
    exact hpq _ _ _ (hpr j p hp))
  obtain ⟨fn, tmps, assign, body, hrun, hrd⟩ := hround
  refine ⟨fun f _ => hF.fn f, ?_⟩
  rw [Oper.semAt_eq _ _ _ (by rw [hop]; intro c; simp)]
  have hexec : (execOp a.eval o).run Γ.P w = .ok (.round Γ.y.l fn tmps assign body) w := by
    simp only [execOp, hop, resolve, hcal, hev, Deferred.ofValue, Sem.run_bind, Sem.run_pure, Result.andThen_ok, invoke, Array.empty_append]
    exact hrun
  rw [hexec, Oper.uponIn_round]
  refine ⟨fun hn => (by rw [hF.depth] at hn; cases hn), hF.rounds _ _ _ _ _ _ _ _ _ (hrd.mono ?_)⟩
  rintro e w' ⟨t, rfl, hJ, hkp⟩
  have hx : ∀ b, b < Γ.w0.heap.size → X b → Ex Γ.β0 b := fun b hb hb' => hX b (g.old b hb hb')
  have r1 := f1.others (Γ := Γ) (X' := fun b => X b ∨ (w.heap.size ≤ b ∧ b < w'.heap.size)) hkp (fun _ h => h) hx (fun b hb h => by rcases h with h | ⟨h, _⟩; exact h; omega) (fun b h => by rcases h with h | ⟨_, h⟩; exact Nat.lt_of_lt_of_le (f1.Xlt b h) hkp.size; exact h)
  have r2 := (r1.putG (i + 1) t).put (d := d) (v := .bool !t) (u := .bool !t) hdN (.pure _ _ (.val _)) (by simp [AV.keys])
  rw [actsC_eq] at hK
  have hgh : Gh Γ (fun b => X b ∨ (w.heap.size ≤ b ∧ b < w'.heap.size)) β1 (((s.acts (frzs (AV.keysL (c.args.toList.map s.geto)))).put Γ.N (.gh (i + 1) t)).put d (.bool !t)) a.defers w' :=
  { sub := fun b hb => .inl (g.sub b hb)
    old := fun b hb hb' => by
      rcases hb' with hb' | ⟨hb', _⟩
      · exact g.old b hb hb'
      · have : Γ.w0.heap.size ≤ w.heap.size := h.keep.size
        omega
    lone := g.lone
    gh := fun _ j t' hj => by
      rw [St.get_put, if_neg (Nat.ne_of_lt hdN), St.get_put, if_pos rfl] at hj
      cases hj
      exact hJ
    nd := g.nd
    marks := fun d' hd' => by rw [g.lone hon] at hd'; cases hd' }
  have hfin : C (((s.acts (frzs (AV.keysL (c.args.toList.map s.geto)))).put Γ.N (.gh (i + 1) t)).put d (.bool !t)) := by
    generalize s.acts (frzs (AV.keysL (c.args.toList.map s.geto))) = s1 at hK
    obtain ⟨e, b, u⟩ := s1
    cases t
    · exact hK.1
    · exact hK.2
  refine hk _ _ _ hfin ⟨fun b => X b ∨ (w.heap.size ≤ b ∧ b < w'.heap.size), β1, ?_, ?_⟩
  · rw [ho]; exact r2
  · rw [ho]; exact hgh

theorem R.putJ {X : Nat → Prop} {d : Option Tmp} (h : Rl (Γ.atX X) s a.tmps w β) (g : Gh Γ X β s a.defers w) (ho : dstOk Γ.N d = true) : R Γ (s.putD d .junk) (a.put d undef) w := by
  cases d with
  | none => exact ⟨X, β, h, g⟩
  | some d =>
    exact ⟨X, β, h.put (by simpa [dstOk, Nat.blt_eq] using ho) (.junk _) (by simp [AV.keys]), g.sub, g.old, fun hon i t hi => g.gh hon i t (putD_gh (d := some d) (v := .junk) ho hi), g.lone, g.nd, g.marks⟩

theorem ops_sound (hm : MoreOK more Γ) (hF : FOK F) {ops : List Oper} {K : St → Prop} {Q : Exit → Act → World → Prop} : ∀ {l : List Oper} {s : St} {a : Act} {w : World}, opsVC false more Γ.P Γ.y Γ.N Γ.fx ops l s K → R Γ s a w →
    (∀ s' a' w', K s' → R Γ s' a' w' → Q .normal a' w') → wpListIn F n Γ.P ops.toArray Q l a w
  | [], s, a, w, hv, hR, hQ => hQ s a w hv hR
  | o :: l, s, a, w, hv, hR, hQ => by
    have opk : ∀ {s : St} {K' : Act → World → Prop} {C : St → Prop}, R Γ s a w → dstOk Γ.N o.dst = true → opK false more Γ.y Γ.N Γ.fx s o C → (∀ s' a' w', C s' → R Γ s' a' w' → K' a' w') → o.wpIn F n Γ.P a w K' Q := fun {s K' C} hR hok hv hK' => by
      unfold opK at hv
      split at hv
      · rename_i l' args hy
        split at hv
        · rename_i d hd
          exact yld_sound hF hR hy hd hv hK'
        · exact hv.elim
      · refine op_sound hm hF hR hok hv fun v acts a' w' hKv hR' => ?_
        rw [actsC_eq, putC_eq] at hKv
        exact hK' _ _ _ hKv hR'
    change opsStep false more Γ.P Γ.y Γ.N Γ.fx ops o (opsVC false more Γ.P Γ.y Γ.N Γ.fx ops l) s K at hv
    unfold opsStep at hv
    split at hv
    · exact hv.elim
    rename_i hok
    split at hv
    · rename_i hg
      refine wpListIn_plain hg fun K' hK' => ?_
      exact opk hR hok hv fun s' a' w' hC hR' => hK' _ _ (ops_sound hm hF hC hR' hQ)
    · rename_i j want hg
      split at hv
      · exact hv.elim
      rename_i d hdst
      split at hv
      · exact hv.elim
      rename_i hdN
      split at hv
      case h_2 => exact hv.elim
      rename_i b hb
      obtain ⟨X, β, h, g⟩ := hR
      have hdlt : d < Γ.N := by simpa [Nat.blt_eq] using hdN
      have hdl : d < a.tmps.size := by rw [h.size]; exact hdlt
      have hev : a.tmps.getD d undef = .bool b := by
        have := h.slots d
        rw [hb] at this
        exact this.val_inv
      have hwant := wanted_of (a := a) hg hdst hdl hev
      -- the slot holds what it holds
      have hput : ∀ t : Bool, b = t → R Γ (s.put d (.bool t)) a w := fun t ht => by
        have := h.put (v := .bool t) (u := .bool t) hdlt (.pure _ _ (.val _)) (by simp [AV.keys])
        have e : a.tmps.setIfInBounds d (.bool t) = a.tmps := by
          apply Array.ext (by simp)
          intro y hy hy'
          rw [Array.getElem_setIfInBounds hy']
          split
          · rename_i e
            subst e
            rw [Array.getD_eq_getD_getElem?, Array.getElem?_eq_getElem hdl] at hev
            simp only [Option.getD_some] at hev
            rw [hev, ht]
          · rfl
        rw [e] at this
        exact ⟨X, β, this, g.sub, g.old, fun hon i t hi => g.gh hon i t (by rw [St.get_put, if_neg (Nat.ne_of_lt hdlt)] at hi; exact hi), g.lone, g.nd, g.marks⟩
      have skip : ∀ t : Bool, b = t → (b == want) = false → (putC (s.put d (.bool t)) o.dst .junk fun s'' => opsVC false more Γ.P Γ.y Γ.N Γ.fx ops l s'' K) → wpListIn F n Γ.P ops.toArray Q (o :: l) a w := fun t ht hw hv => by
        refine wpListIn_step fun K' hK' => ?_
        rw [hwant, hw]
        simp only [Bool.false_eq_true, if_false]
        rw [putC_eq] at hv
        refine ⟨fun f _ => hF.fn f, hK' _ _ (ops_sound hm hF hv ?_ hQ)⟩
        obtain ⟨X, β, h, g⟩ := hput t ht
        exact R.putJ h g hok
      have run : ∀ t : Bool, b = t → (b == want) = true → (opK false more Γ.y Γ.N Γ.fx (s.put d (.bool t)) o fun s'' => opsVC false more Γ.P Γ.y Γ.N Γ.fx ops l s'' K) → wpListIn F n Γ.P ops.toArray Q (o :: l) a w := fun t ht hw hv => by
        refine wpListIn_step fun K' hK' => ?_
        rw [hwant, hw]
        simp only [if_true]
        exact opk (hput t ht) hok hv fun s' a' w' hC hR' => hK' _ _ (ops_sound hm hF hC hR' hQ)
      obtain ⟨e, bl, u⟩ := s
      rcases bsel_elim hv with ⟨e0, hv2⟩ | ⟨e0, hv2⟩
      · cases want with
        | true => exact run true e0 (by rw [e0]; rfl) hv2
        | false => exact skip true e0 (by rw [e0]; rfl) hv2
      · cases want with
        | true => exact skip false e0 (by rw [e0]; rfl) hv2
        | false => exact run false e0 (by rw [e0]; rfl) hv2

theorem Wp.mono {c : Code} {K K' : Exit → St → Prop} (h : Wp Γ F n c s K) (hk : ∀ e s, K e s → K' e s) : Wp Γ F n c s K' :=
  fun a w hR => wpIn_mono (h a w hR) fun e _ _ ⟨s', h1, h2⟩ => ⟨s', hk e s' h1, h2⟩

theorem code_sound (hm : MoreOK more Γ) (hF : FOK F) (c : Code) : ∀ {s : St} {K : Exit → St → Prop}, vcCode more Γ F n c s K → Wp Γ F n c s K := by
  induction c with
  | skip => exact fun {s K} h a w hR => wpIn_skip ⟨s, h, hR⟩
  | region id ops d =>
    intro s K h
    cases d with
    | false =>
      intro a w hR
      refine wpIn_region_list ?_
      have := ops_sound (n := n) hm hF (Q := fun e a' w' => ∃ s', K e s' ∧ R Γ s' a' w') h hR fun s' a' w' h1 h2 => ⟨s', h1, h2⟩
      simpa using this
    | true => exact h
  | seq x y ihx ihy =>
    intro s K h a w hR
    refine wpIn_seq (wpIn_mono (ihx (K := seqK (vcCode more Γ F n y) K) h a w hR) ?_)
    rintro e a' w' ⟨s', h1, h2⟩
    cases e with
    | normal => exact ihy h1 a' w' h2
    | exit id => exact ⟨s', h1, h2⟩
    | goto l => exact ⟨s', h1, h2⟩
    | ret => exact ⟨s', h1, h2⟩
    | panic c => exact ⟨s', h1, h2⟩
    | outgrown => exact ⟨s', h1, h2⟩
  | cond c x y ihx ihy =>
    intro s K h
    change condC (s.geto c) (vcCode more Γ F n x s K) (vcCode more Γ F n y s K) at h
    unfold condC at h
    split at h
    case h_2 => exact h.elim
    rename_i t ht
    intro a w hR
    have hev : a.eval c = .bool t := by
      obtain ⟨X, β, hr, _⟩ := hR
      have := geto_AR hr c
      rw [ht] at this
      exact this.val_inv
    refine wpIn_cond hev ?_
    rcases bsel_elim h with ⟨rfl, h⟩ | ⟨rfl, h⟩
    · exact ihx h a w hR
    · exact ihy h a w hR
  | block id c ih =>
    intro s K h a w hR
    refine wpIn_block (wpIn_mono (ih (K := blockK id K) h a w hR) ?_)
    rintro e a' w' ⟨s', h1, h2⟩
    cases e with
    | normal => exact ⟨s', h1, h2⟩
    | exit id' =>
      simp only [blockK, beq_eq_decide] at h1
      by_cases e : id' = id
      · simp only [e, decide_true, cond_true] at h1
        simp only [Exit.inBlock, e, if_true]
        exact ⟨s', h1, h2⟩
      · simp only [e, decide_false, cond_false] at h1
        simp only [Exit.inBlock, e, if_false]
        exact ⟨s', h1, h2⟩
    | goto l => exact ⟨s', h1, h2⟩
    | ret => exact ⟨s', h1, h2⟩
    | panic c => exact ⟨s', h1, h2⟩
    | outgrown => exact ⟨s', h1, h2⟩
  | exit id => exact fun {s K} h a w hR => wpIn_exit ⟨s, h, hR⟩
  | ret => exact fun {s K} h a w hR => wpIn_ret ⟨s, h, hR⟩
  | label l => exact fun {s K} h a w hR => wpIn_label ⟨s, h, hR⟩
  | loop _ _ => exact fun {s K} h => h
  | rangeFunc _ _ _ _ _ _ => exact fun {s K} h => h
  | scope _ _ => exact fun {s K} h => h
  | goto _ => exact fun {s K} h => h
  | refuse _ => exact fun {s K} h => h
end
end Go.Avc
