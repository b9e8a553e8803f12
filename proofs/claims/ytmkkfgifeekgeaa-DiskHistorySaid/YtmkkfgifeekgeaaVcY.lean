/- Contracts with blocks: out of the conditions of a function, and at a call. Conditions: none. -/
import Derived.Test.YtmkkfgifeekgeaaVcW
namespace Go.Avc
open Go.RowKit

def endG (P : Program) (fn : Func) (Γ : Ctx) (s1 : St) (e : Exit) (s : St) : Prop :=
  match e with
  | .normal => resVC P s fn.results.toList fun l => Le (Ctx.plain P fn.results.size Γ.w0 Γ.X Γ.β0 Γ.fx) ⟨numE 0 l, s.blks, s.used⟩ s1
  | .ret => resVC P s fn.results.toList fun l => Le (Ctx.plain P fn.results.size Γ.w0 Γ.X Γ.β0 Γ.fx) ⟨numE 0 l, s.blks, s.used⟩ s1
  | _ => False
/-- Fewer blocks need be avoided. -/
theorem AR.less {w : World} {A A' : Nat → Prop} {β : BM} {p : AV} {v : Value} (h : AR w A β p v) (hA : ∀ b, A' b → A b) : AR w A' β p v :=
  h.mono ⟨Nat.le_refl _, fun b _ hn => ⟨rfl, fun h' => hn (hA b h')⟩⟩ fun _ _ => rfl
theorem Rl.less {Γ : Ctx} {s : St} {tm : Array Value} {w : World} {β : BM} {X' : Nat → Prop} (h : Rl (Γ.atX X') s tm w β) {X : Nat → Prop} (hX : ∀ b, X b → X' b) : Rl (Γ.atX X) s tm w β :=
  have hA : ∀ b, Av X β b → Av X' β b := fun b hb => by
    rcases hb with hb | hb
    · exact .inl (hX b hb)
    · exact .inr hb
  have had : Ad w (Av X' β) w (Av X β) := ⟨Nat.le_refl _, fun b _ hn => ⟨rfl, fun h' => hn (hA b h')⟩⟩
  { size := h.size
    slots := fun t => (h.slots t).less hA
    blks := fun k => by
      have hb := h.blks k
      cases hs : s.blk k with
      | none =>
        rw [hs] at hb
        cases hβ : β k with
        | none => trivial
        | some bi => rw [hβ] at hb; exact hb.elim
      | some blk =>
        rw [hs] at hb
        cases hβ : β k with
        | none => rw [hβ] at hb; exact hb.elim
        | some bi =>
          rw [hβ] at hb
          exact BOK.mono had hb (fun _ _ => rfl) fun _ => rfl
    inj := h.inj
    lt := h.lt
    notX := fun k bi hb hv hx => h.notX k bi hb hv (hX _ hx)
    own := h.own
    fixd := h.fixd
    used1 := h.used1
    used2 := h.used2
    keep := h.keep
    Xlt := fun b hb => h.Xlt b (hX b hb) }

section
variable {Γ : Ctx} {s : St} {a : Act} {w : World} {β : BM}

theorem resVC_keys (h : Rl Γ s a.tmps w β) : ∀ {l : List ResultVar} {K : List AV → Prop}, resVC Γ.P s l K →
    ∃ (vs : List AV) (us : List Value), K vs ∧ vs.length = us.length ∧ us.length = l.length ∧ (∀ (j : Nat) (v : AV), vs[j]? = some v → AR w (Av Γ.X β) β v (us.getD j undef) ∧ ∀ k ∈ v.keys, k ∈ s.used) ∧
      ∀ (j : Nat) (x : ResultVar), l[j]? = some x → (resSem a.tmps x).run Γ.P w = .ok (us.getD j undef) w
  | [], K, hK => ⟨[], [], hK, rfl, rfl, by simp, by simp⟩
  | .tmp t :: l, K, hK => by
    obtain ⟨vs, us, h1, h2, h3, h4, h5⟩ := resVC_keys h (l := l) hK
    refine ⟨_, a.tmps.getD t undef :: us, h1, by simp [h2], by simp [h3], fun j v hj => ?_, fun j x hj => ?_⟩
    · cases j with
      | zero => simp at hj; subst hj; exact ⟨h.slots t, h.used1 t⟩
      | succ j => simpa using h4 j v (by simpa using hj)
    · cases j with
      | zero => simp at hj; subst hj; rfl
      | succ j => simpa using h5 j x (by simpa using hj)
  | .cell x t :: l, K, hK => by
    obtain ⟨v, u, hv, hr, hva, hvk⟩ := load_sound h (h.slots x) hK
    obtain ⟨vs, us, h1, h2, h3, h4, h5⟩ := resVC_keys h (l := l) hv
    refine ⟨_, u :: us, h1, by simp [h2], by simp [h3], fun j v' hj => ?_, fun j y hj => ?_⟩
    · cases j with
      | zero => simp at hj; subst hj; exact ⟨hva, hvk⟩
      | succ j => simpa using h4 j v' (by simpa using hj)
    · cases j with
      | zero =>
        simp at hj; subst hj
        simp only [List.getD_cons_zero]
        cases hx : a.tmps.getD x undef with
        | pointer p =>
          cases p with
          | some ad => rw [hx] at hr; simpa [Instr.loadAt, Instr.sureAddr, asAddr, resSem, hx] using hr
          | none => rw [hx] at hr; simp [Instr.loadAt, Instr.sureAddr] at hr
        | _ => rw [hx] at hr; simp [Instr.loadAt, Instr.sureAddr] at hr
      | succ j => simpa using h5 j y (by simpa using hj)
end

theorem GSpec.of_vc {P : Program} {f : FuncId} {fn : Func} {c : Code} {m : Nat} {s0 s1 : St} {fx : List Nat} (more : Ctx → St → Oper → Kont → Prop) (hmore : ∀ Γ, MoreOK (more Γ) Γ) (hf : P.funcs[f]? = some fn) (hb : fn.body = some c)
    (hcall : ∀ (vs : Array Value) (w : World), (callFunc f vs).run P w = .ok (.enter f vs) w) (hl : m ≤ fn.ntmps)
    (h : ∀ Γ : Ctx, Γ.P = P → Γ.N = fn.ntmps → Γ.fx = fx → Γ.y.on = false → vcCode (more Γ) Γ Fence.wide 0 c s0 (endG P fn Γ s1)) : GSpec P f m s0 fx fn.results.size s1 := by
  refine ⟨hcall, fun w X β0 vs hR0 => ?_⟩
  refine (callsIn_wide (n := 0)).1 (callsIn_of_wp_marks hf hb trivial ?_)
  let Γ : Ctx := Ctx.plain P fn.ntmps w X β0 fx
  have hs := code_sound (hmore Γ) FOK.wide c (h Γ rfl rfl rfl rfl)
  have hsz : vs.size = m := hR0.size
  have hR : R Γ s0 { tmps := vs ++ Array.replicate (fn.ntmps - vs.size) undef, defers := [] } w := by
    refine ⟨X, β0, ?_, fun _ h => h, fun _ _ h => h, (fun h => by cases h), (fun h => by cases h), List.nodup_nil, (fun d hd => by cases hd)⟩
    exact
    { hR0 with
      size := by show (vs ++ Array.replicate (fn.ntmps - vs.size) undef).size = fn.ntmps; rw [Array.size_append, Array.size_replicate]; omega
      slots := fun t => by
        show AR w (Av X β0) β0 _ _
        rw [frame_getD]; exact hR0.slots t }
  refine wpIn_mono (hs _ w hR) ?_
  rintro e a' w' ⟨s', hK, hr⟩
  have fin : (resVC P s' fn.results.toList fun l => Le (Ctx.plain P fn.results.size w X β0 fx) ⟨numE 0 l, s'.blks, s'.used⟩ s1) →
      LeavesInM Fence.wide 0 P fn a'.tmps (fun e w'' => ∃ us β', e = .returned (if us.size = 1 then us.getD 0 undef else .tuple us) ∧ Rl (Ctx.plain P fn.results.size w X β0 fx) s1 us w'' β') a'.defers .returning w' := fun hK => by
    refine hr.leave rfl fun X' β w' hr hsub hold _ => ?_
    obtain ⟨l, us, hLe, h2, h3, h4, h5⟩ := resVC_keys (Γ := Γ.atX X') hr hK
    have hm := mapM_run (P := P) (w := w') (g := resSem a'.tmps) h3.symm h5
    have hres : (results fn a'.tmps).run P w' = .ok (if us.toArray.size = 1 then us.toArray.getD 0 undef else .tuple us.toArray) w' := by
      rw [results_eq, Sem.run_bind, ← Array.toArray_toList (xs := fn.results)]
      rw [List.mapM_toArray]
      simp only [Sem.run_map, hm]
      simp [Result.andThen]
      split
      · rename_i h1
        have h1' : us.length = 1 := h1
        match us, h1' with
        | [u], _ => simp
      · rfl
    have hR1 : R (Ctx.plain P fn.results.size w X β0 fx) ⟨numE 0 l, s'.blks, s'.used⟩ { tmps := us.toArray, defers := [] } w' := by
      refine ⟨X', β, ?_, hsub, hold, (fun h => by cases h), (fun h => by cases h), List.nodup_nil, (fun d hd => by cases hd)⟩
      have hget : ∀ t, St.get ⟨numE 0 l, s'.blks, s'.used⟩ t = (l[t]?).getD .junk := fun t => by simp [St.get, numE_get]
      exact
      { hr with
        size := by simp [h3]
        slots := fun t => by
          rw [hget]
          cases hl : l[t]? with
          | none => exact .junk _
          | some v =>
            have := (h4 t v hl).1
            simpa [List.getD, Array.getD_eq_getD_getElem?] using this
        used1 := fun t k hk => by
          rw [hget] at hk
          cases hl : l[t]? with
          | none => rw [hl] at hk; simp [AV.keys] at hk
          | some v => rw [hl] at hk; exact (h4 t v hl).2 k hk }
    obtain ⟨X2, β', hR2, g2⟩ := hLe _ _ hR1
    refine ⟨_, hres, us.toArray, β', rfl, ?_⟩
    exact hR2.less g2.sub
  cases e with
  | normal => exact fin hK
  | ret => exact fin hK
  | exit id => exact hK.elim
  | goto l => exact hK.elim
  | panic c => exact hK.elim
  | outgrown => exact hK.elim
end Go.Avc
