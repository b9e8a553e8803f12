/- Iterators, and loops over them. Conditions: none. -/
import Derived.Test.YtmkkfgifeekgeaaVcY
namespace Go.Avc
open Go.RowKit

/-- The contract of an iterator: the function value .fn f caps yields xs, one after the other, until it is told to stop. -/
def ISpec (P : Program) (f : FuncId) (caps : List PV) (xs : List (List PV)) : Prop :=
  (∀ (vs : Array Value) (w : World), (callFunc f vs).run P w = .ok (.enter f vs) w) ∧
  ∀ (w : World) (X : Nat → Prop) (cv : Array Value) (y : Yl P), y.on = true → y.rd = false → y.xs = xs → cv.size = caps.length → (∀ (j : Nat) (p : PV), caps[j]? = some p → PR w X p (cv.getD j undef)) → (∀ b, X b → b < w.heap.size) →
    y.J 0 false X (fun _ => False) w →
    Calls P f (#[.func (.yield y.l) #[] #[]] ++ cv) w fun e w' => (∃ v, e = .returned v) ∧ ∃ i t X' E, (t = false → i = xs.length) ∧ y.J i t X' E w'

theorem needY {xs xs' : List (List PV)} {i : Nat} {ps row : List PV} {B : Prop} (hx : xs = xs') (h : xs'[i]? = some row) (hs : SubL ps row) (k : B) : Need (∃ row, xs[i]? = some row ∧ SubL ps row) B := ⟨⟨row, hx ▸ h, hs⟩, k⟩

def startI (l N : Nat) (caps : List PV) : St := ⟨(0, .pure (.val (.func (.yield l) #[] #[]))) :: (N, .gh 0 false) :: argsEnv 1 caps, [], []⟩
def endI (n : Nat) (N : Nat) (e : Exit) (s : St) : Prop := match e with
  | .normal => ∃ i t, s.get N = .gh i t ∧ (t = false → i = n)
  | .ret => ∃ i t, s.get N = .gh i t ∧ (t = false → i = n)
  | _ => False

open Classical in
noncomputable def bmOf (X : Nat → Prop) : BM := fun b => if X b then some ⟨b, 1, 0, 0, false⟩ else none
theorem ex_bmOf {X : Nat → Prop} {b : Nat} (h : X b) : Ex (bmOf X) b := ⟨b, ⟨b, 1, 0, 0, false⟩, by simp [bmOf, h], rfl, rfl⟩

theorem ISpec.of_vc {P : Program} {f : FuncId} {fn : Func} {c : Code} {caps : List PV} {xs : List (List PV)} (more : Ctx → St → Oper → Kont → Prop) (hmore : ∀ Γ, MoreOK (more Γ) Γ) (hf : P.funcs[f]? = some fn) (hb : fn.body = some c)
    (hcall : ∀ (vs : Array Value) (w : World), (callFunc f vs).run P w = .ok (.enter f vs) w) (hl : 1 + caps.length ≤ fn.ntmps) (hres : fn.results = #[])
    (h : ∀ Γ : Ctx, Γ.P = P → Γ.N = fn.ntmps → Γ.fx = [] → Γ.y.on = true → Γ.y.xs = xs → vcCode (more Γ) Γ Fence.wide 0 c (startI Γ.y.l Γ.N caps) (endI xs.length Γ.N)) : ISpec P f caps xs := by
  refine ⟨hcall, fun w X cv y hon hrd hxs hsz hv hX hJ => ?_⟩
  refine (callsIn_wide (n := 0)).1 (callsIn_of_wp_marks hf hb trivial ?_)
  let Γ : Ctx := ⟨P, fn.ntmps, w, X, bmOf X, [], y, fun _ b hb => ex_bmOf hb⟩
  have hs := code_sound (hmore Γ) FOK.wide c (h Γ rfl rfl rfl hon hxs)
  have hR : R Γ (startI y.l fn.ntmps caps) { tmps := (#[Value.func (.yield y.l) #[] #[]] ++ cv) ++ Array.replicate (fn.ntmps - (#[Value.func (.yield y.l) #[] #[]] ++ cv).size) undef, defers := [] } w := by
    have hget : ∀ t, (startI y.l fn.ntmps caps).get t = if t = 0 then .pure (.val (.func (.yield y.l) #[] #[])) else if t = fn.ntmps then .gh 0 false else (lk (argsEnv 1 caps) t).getD .junk := fun t => by
      simp only [startI, St.get, lk_cons]
      by_cases e : 0 = t
      · simp [← e]
      · rw [if_neg e, if_neg (Ne.symm e)]
        by_cases e' : fn.ntmps = t
        · simp [e']
        · rw [if_neg e', if_neg (Ne.symm e')]
    have hN : (startI y.l fn.ntmps caps).get fn.ntmps = .gh 0 false := by rw [hget, if_neg (by omega), if_pos rfl]
    refine ⟨X, fun _ => none, ?_, fun _ h => h, fun _ _ h => h, fun _ i t hi => ?_, fun _ => rfl, List.nodup_nil, (fun d hd => by cases hd)⟩
    · have hk0 : ∀ t, ∀ k ∈ ((startI y.l fn.ntmps caps).get t).keys, False := fun t k hk => by
        rw [hget] at hk
        split at hk
        · simp [AV.keys] at hk
        · split at hk
          · simp [AV.keys] at hk
          · cases hl : lk (argsEnv 1 caps) t with
            | none => rw [hl] at hk; simp [AV.keys] at hk
            | some v =>
              obtain ⟨p, _, _, rfl⟩ := argsEnv_get hl
              rw [hl] at hk; simp [AV.keys] at hk
      refine
      { size := by show (_ ++ Array.replicate _ undef).size = fn.ntmps; simp; omega
        slots := fun t => ?_
        blks := fun k => by simp [St.blk, startI, lk, BO]
        inj := fun k k' bi bi' hk => by cases hk
        lt := fun k bi hk => by cases hk
        notX := fun k bi hk => by cases hk
        own := fun k bi hk => by cases hk
        fixd := fun k hk => by cases hk
        used1 := fun t k hk => (hk0 t k hk).elim
        used2 := fun k b hk => by simp [St.blk, startI, lk] at hk
        keep := Kp.refl _ _
        Xlt := hX }
      show AR w (Av X fun _ => none) _ _ _
      rw [hget, frame_getD]
      split
      · rename_i e; subst e
        have : (#[Value.func (.yield y.l) #[] #[]] ++ cv).getD 0 undef = .func (.yield y.l) #[] #[] := by
          rw [Array.getD_eq_getD_getElem?, Array.getElem?_append_left (by simp)]; rfl
        rw [this]
        exact .pure _ _ (.val _)
      · split
        · exact .gh _ _ _
        · cases hl : lk (argsEnv 1 caps) t with
          | none => exact .junk _
          | some v =>
            obtain ⟨p, h1, h2, rfl⟩ := argsEnv_get hl
            have e2 : (#[Value.func (.yield y.l) #[] #[]] ++ cv).getD t undef = cv.getD (t - 1) undef := by
              rw [Array.getD_eq_getD_getElem?, Array.getD_eq_getD_getElem?, Array.getElem?_append_right (by simp; omega)]
              simp
            rw [e2]
            refine .pure _ _ ((hv _ p h1).mono ⟨Nat.le_refl _, fun b _ hb => ⟨rfl, ?_⟩⟩)
            rintro (hx | ⟨k, bi, hk, _⟩)
            · exact hb hx
            · cases hk
    · have hi' : (startI y.l fn.ntmps caps).get fn.ntmps = .gh i t := hi
      rw [hN] at hi'
      cases hi'
      refine y.stable 0 false X _ _ w w hJ (Kp.refl _ _) ?_
      rintro b ⟨k, bi, hk, _⟩
      cases hk
  refine wpIn_mono (hs _ w hR) ?_
  rintro e a' w' ⟨s', hK, hr⟩
  have fin : (∃ i t, s'.get fn.ntmps = .gh i t ∧ (t = false → i = xs.length)) → LeavesInM Fence.wide 0 P fn a'.tmps (fun e w'' => (∃ v, e = .returned v) ∧ ∃ i t X' E, (t = false → i = xs.length) ∧ y.J i t X' E w'') a'.defers .returning w' := by
    rintro ⟨i, t, hi, hit⟩
    refine hr.leave hrd fun X' β w'' hr' _ _ hg => ?_
    refine ⟨.tuple #[], by rw [results_eq, hres]; simp, ⟨_, rfl⟩, i, t, X', _, hit, hg hon i t hi⟩
  cases e with
  | normal => exact fin hK
  | ret => exact fin hK
  | exit id => exact hK.elim
  | goto l => exact hK.elim
  | panic c => exact hK.elim
  | outgrown => exact hK.elim

/-- What is fitting in a world is fitting in another where only blocks to be avoided have turned; the call begins anew there. -/
theorem Rl.turn {Γ : Ctx} {s : St} {tm : Array Value} {w w' : World} {β : BM} {X' E : Nat → Prop} (h : Rl Γ s tm w β) (hk : Kp E w w') (hE : ∀ b, E b → Γ.X b) (hX' : ∀ b, b < w.heap.size → X' b → Γ.X b) (hlt : ∀ b, X' b → b < w'.heap.size) :
    Rl (Ctx.plain Γ.P Γ.N w' X' β Γ.fx) s tm w' β := by
  have h0 : Rl ((Ctx.plain Γ.P Γ.N { w with heap := #[] } Γ.X β Γ.fx).atX Γ.X) s tm w β :=
    { h with own := fun k bi _ _ => .inl (Nat.zero_le _), fixd := fun _ _ => rfl, keep := ⟨rfl, rfl, rfl, Nat.zero_le _, fun b hb => absurd hb (Nat.not_lt_zero b)⟩ }
  have h1 := h0.others (X' := X') hk hE (fun b hb => absurd hb (Nat.not_lt_zero b)) hX' hlt
  exact { h1 with own := fun k bi hb hv => .inr ⟨k, bi, hb, hv, rfl⟩, fixd := fun _ _ => rfl, keep := Kp.refl _ _ }

def paramsSt : List Tmp → List PV → St → St
  | t :: ts, p :: ps, s => paramsSt ts ps (s.put t (.pure p))
  | _, _, s => s
def allLt (N : Nat) : List Nat → Bool
  | [] => true
  | t :: l => bif Nat.blt t N then allLt N l else false

theorem paramsRl {Γ : Ctx} {w : World} {β : BM} : ∀ {ts : List Tmp} {row : List PV} {us : List Value} {s : St} {tm : Array Value}, Rl Γ s tm w β → allLt Γ.N ts = true → row.length = us.length → (∀ (j : Nat) (p : PV), row[j]? = some p → PR w (Av Γ.X β) p (us.getD j undef)) →
    Rl Γ (paramsSt ts row s) ((ts.zip us).foldl (fun t (p, v) => t.setIfInBounds p v) tm) w β
  | [], row, us, s, tm, h, _, _, _ => by simpa [paramsSt] using h
  | t :: ts, [], [], s, tm, h, _, _, _ => by simpa [paramsSt] using h
  | t :: ts, [], u :: us, _, _, _, _, hl, _ => by simp at hl
  | t :: ts, p :: row, [], _, _, _, _, hl, _ => by simp at hl
  | t :: ts, p :: row, u :: us, s, tm, h, ht, hl, hp => by
    simp only [allLt] at ht
    cases hb : Nat.blt t Γ.N with
    | false => rw [hb] at ht; cases ht
    | true =>
      rw [hb] at ht
      simp only [paramsSt, List.zip_cons_cons, List.foldl_cons]
      refine paramsRl (h.put (by simpa [Nat.blt_eq] using hb) (.pure _ _ (hp 0 p rfl)) (by simp [AV.keys])) (by simpa using ht) (by simpa using hl) fun j q hj => ?_
      simpa using hp (j + 1) q (by simpa using hj)

/-- How a round is left. -/
def roundEnd (K : Exit → St → Prop) (env : List (Nat × AV)) (Γ : Ctx) (B : List (Nat × Option Blk)) (U : List Nat) (ok : Prop) (e : Exit) (s : St) : Prop := match e with
  | .normal => Both (Le Γ ⟨[], s.blks, s.used⟩ ⟨[], B, U⟩) ok
  | .ret => subB (keysE env) s.used = true ∧ K .ret ⟨env, s.blks, s.used⟩
  | .exit id => subB (keysE env) s.used = true ∧ K (.exit id) ⟨env, s.blks, s.used⟩
  | _ => False
def normalK (C : St → Prop) (e : Exit) (s : St) : Prop := match e with
  | .normal => C s
  | _ => False

theorem exK {A B : Prop} (h : A) (k : B) : A ∧ B := ⟨h, k⟩

section
variable {Γ : Ctx} {env : List (Nat × AV)} {fx' : List Nat} {w W : World} {X Xc E : Nat → Prop} {β β' : BM} {tm : Array Value} {D l : Nat}

/-- The caller's side of a loop over a function, between two rounds. -/
structure Side (Γ : Ctx) (fx' : List Nat) (w : World) (X : Nat → Prop) (β : BM) (D l : Nat) (s : St) (tm : Array Value) (Xc E : Nat → Prop) (W : World) (β' : BM) : Prop where
  rl : Rl (Ctx.plain Γ.P Γ.N w (fun b => X b ∨ b = D ∨ b = l ∨ E b) β fx') s tm W β'
  xc : ∀ b, (X b ∨ b = D ∨ b = l) → Xc b
  live : ∀ k bi, β' k = some bi → bi.virt = false → Xc bi.b
  lt : ∀ b, Xc b → b < W.heap.size ∧ ¬ E b
  e : ∀ b, E b → w.heap.size + 2 ≤ b ∧ b < W.heap.size
  sz : w.heap.size + 2 ≤ W.heap.size
  dd : W.heap[D]? = some (.deferred (some []))

theorem Side.stable {s : St} {E' : Nat → Prop} {W' : World} (hD : D = w.heap.size) (hl : l = w.heap.size + 1) (h : Side Γ fx' w X β D l s tm Xc E W β') (hX : ∀ b, X b → b < w.heap.size) (hk : Kp E W W') (hE : ∀ b, E' b → (E b ∨ W.heap.size ≤ b) ∧ b < W'.heap.size) :
    Side Γ fx' w X β D l s tm Xc E' W' β' ∧ W'.heap[l]? = W.heap[l]? := by
  have hnE : ∀ b, b < w.heap.size + 2 → ¬ E b := fun b hb he => by have := (h.e b he).1; omega
  have hs := h.sz
  have hsz := hk.size
  refine ⟨⟨?_, h.xc, h.live, fun b hb => ⟨Nat.lt_of_lt_of_le (h.lt b hb).1 hk.size, fun he => ?_⟩, fun b hb => ⟨?_, (hE b hb).2⟩, by omega, (hk.block D (by omega) (hnE D (by omega))).trans h.dd⟩, hk.block l (by omega) (hnE l (by omega))⟩
  · refine Rl.others (Γ := Ctx.plain Γ.P Γ.N w X β fx') h.rl hk (fun b hb => .inr (.inr (.inr hb))) (fun b hb he => absurd he (hnE b (by have : b < w.heap.size := hb; omega))) (fun b hb hx => ?_) (fun b hx => ?_)
    · rcases hx with hx | hx | hx | hx
      · exact .inl hx
      · exact .inr (.inl hx)
      · exact .inr (.inr (.inl hx))
      · rcases (hE b hx).1 with he | he
        · exact .inr (.inr (.inr he))
        · omega
    · rcases hx with hx | hx | hx | hx
      · have := hX b hx; omega
      · omega
      · omega
      · exact (hE b hx).2
  · rcases (hE b he).1 with h1 | h1
    · exact (h.lt b hb).2 h1
    · have := (h.lt b hb).1; omega
  · rcases (hE b hb).1 with h1 | h1
    · exact (h.e b h1).1
    · omega

/-- A round has turned the caller's blocks. -/
theorem Side.after {B U : _} {s2 : St} {a2 : Act} {W1 W2 w3 w4 : World} {X1 : Nat → Prop} {β1 : BM} {o : Obj} {s1 : St} {tm1 : Array Value} {s : St} (hs0 : s = ⟨env, B, U⟩) (hD : D = w.heap.size) (hl : l = w.heap.size + 1) (hX : ∀ b, X b → b < w.heap.size) (hkf : ∀ k ∈ keysE env, k ∈ fx')
    (h : Side Γ fx' w X β D l s tm Xc E W β') (h1 : Rl (Ctx.plain Γ.P Γ.N W X1 β' fx') s1 tm1 W1 β1) (hX1 : ∀ b, (X b ∨ b = D ∨ b = l ∨ E b) → X1 b) (o1 : Obj) (hW2 : W2 = W1.putObj l o1)
    (hR : R (Ctx.inRd Γ.P Γ.N W2 X1 β1 fx') s2 a2 w3) (hsu : ∀ k ∈ keysE env, k ∈ s2.used) (hw4 : w4 = w3.putObj l o) :
    ∃ β4, Side Γ fx' w X β D l ⟨env, s2.blks, s2.used⟩ tm (fun b => Xc b ∨ (W.heap.size ≤ b ∧ b < w4.heap.size)) E w4 β4 ∧ Kp Xc W w4 := by
  subst hs0
  obtain ⟨X3, β3, h3, g3⟩ := hR
  have hs := h.sz
  have z1 := h1.keep.size
  have z2 : W2.heap.size = W1.heap.size := by rw [hW2, World.putObj_size]
  have z3 := h3.keep.size
  have z4 : w4.heap.size = w3.heap.size := by rw [hw4, World.putObj_size]
  have z1' : W.heap.size ≤ W1.heap.size := z1
  have z3' : W2.heap.size ≤ w3.heap.size := z3
  -- whose the live blocks are
  have own1 : ∀ b, Ex β1 b → W.heap.size ≤ b ∨ Ex β' b := by
    rintro b ⟨k, bi, hk, hv, rfl⟩
    exact h1.own k bi hk hv
  have own3 : ∀ b, Ex β3 b → W.heap.size ≤ b ∨ Ex β' b := by
    rintro b ⟨k, bi, hk, hv, rfl⟩
    rcases h3.own k bi hk hv with h | h
    · have : W2.heap.size ≤ bi.b := h
      exact .inl (by omega)
    · exact own1 _ h
  have kps : Kp (fun b => b = l) w3 w4 := by rw [hw4]; exact kp_putObj o _ rfl
  have hkp : Kp (fun b => Ex β' b ∨ b = l) W w4 := by
    have p2 : Kp (fun b => b = l) W1 W2 := by rw [hW2]; exact kp_putObj o1 _ rfl
    refine ⟨kps.os.trans (h3.keep.os.trans (p2.os.trans h1.keep.os)), kps.tape.trans (h3.keep.tape.trans (p2.tape.trans h1.keep.tape)), kps.output.trans (h3.keep.output.trans (p2.output.trans h1.keep.output)), by omega, fun b hb hn => ?_⟩
    have hnl : ¬ b = l := fun e => hn (.inr e)
    have hn1 : ¬ Ex β1 b := fun he => by
      rcases own1 b he with h | h
      · omega
      · exact hn (.inl h)
    exact (kps.block b (by omega) hnl).trans ((h3.keep.block b (by show b < W2.heap.size; omega) hn1).trans ((p2.block b (by omega) hnl).trans (h1.keep.block b hb fun he => hn (.inl he))))
  have hXa : ∀ b, (X b ∨ b = D ∨ b = l ∨ E b) → X3 b := fun b hb => g3.sub b (hX1 b hb)
  have hm := Rl.turn (X' := fun b => X b ∨ b = D ∨ b = l ∨ E b) h3 kps (fun b hb => hXa b (.inr (.inr (.inl hb)))) (fun b _ hb => hXa b hb) (fun b hb => by
    rcases hb with hb | hb | hb | hb
    · have := hX b hb; omega
    · omega
    · omega
    · have := (h.e b hb).2; omega)
  have hlive : ∀ k bi, β3 k = some bi → bi.virt = false → Xc bi.b ∨ (W.heap.size ≤ bi.b ∧ bi.b < w4.heap.size) := fun k bi hk hv => by
    rcases own3 bi.b ⟨k, bi, hk, hv, rfl⟩ with h' | ⟨j, bj, hj, hvj, e⟩
    · exact .inr ⟨h', hm.lt k bi hk hv⟩
    · rw [← e]; exact .inl (h.live j bj hj hvj)
  have hβ : ∀ k ∈ fx', β3 k = β' k := fun k hk => (h3.fixd k hk).trans (h1.fixd k hk)
  have hD4 : w4.heap[D]? = some (.deferred (some [])) := by
    refine (hkp.block D (by omega) ?_).trans h.dd
    rintro (⟨k, bi, hk, hv, e⟩ | e)
    · exact h.rl.notX k bi hk hv (.inr (.inl e))
    · omega
  refine ⟨β3, ⟨?_, fun b hb => .inl (h.xc b hb), hlive, fun b hb => ?_, fun b hb => ⟨(h.e b hb).1, by have := (h.e b hb).2; omega⟩, by omega, hD4⟩, ⟨hkp.os, hkp.tape, hkp.output, hkp.size, fun b hb hn => hkp.block b hb ?_⟩⟩
  · have hav : Ad W (Av (fun b => X b ∨ b = D ∨ b = l ∨ E b) β') w4 (Av (fun b => X b ∨ b = D ∨ b = l ∨ E b) β3) := ⟨by omega, fun b hb hA => ⟨hkp.block b hb (by
      rintro (he | he)
      · exact hA (.inr he)
      · exact hA (.inl (.inr (.inr (.inl he))))), fun hA' => hA (by
      rcases hA' with hA' | hA'
      · exact .inl hA'
      · rcases own3 b hA' with h' | h'
        · omega
        · exact .inr h')⟩⟩
    exact
    { size := h.rl.size
      slots := fun t => by
        have ht := h.rl.slots t
        refine AR.mono hav ht fun k hk => hβ k (hkf k ?_)
        unfold St.get at hk
        cases hl : lk env t with
        | none => rw [hl] at hk; simp [AV.keys] at hk
        | some v => rw [hl] at hk; exact lk_keysE hl k hk
      blks := hm.blks
      inj := hm.inj
      lt := hm.lt
      notX := hm.notX
      own := fun k bi hk hv => by
        rcases own3 bi.b ⟨k, bi, hk, hv, rfl⟩ with h' | ⟨j, bj, hj, hvj, e⟩
        · exact .inl (by show w.heap.size ≤ bi.b; omega)
        · have := h.rl.own j bj hj hvj
          rwa [e] at this
      fixd := fun k hk => (hβ k hk).trans (h.rl.fixd k hk)
      used1 := fun t k hk => by
        unfold St.get at hk
        cases hl : lk env t with
        | none => simp [hl, AV.keys] at hk
        | some v => simp only [hl, Option.getD_some] at hk; exact hsu k (lk_keysE hl k hk)
      used2 := hm.used2
      keep := ⟨hkp.os.trans h.rl.keep.os, hkp.tape.trans h.rl.keep.tape, hkp.output.trans h.rl.keep.output, by show w.heap.size ≤ w4.heap.size; omega, fun b hb hn => by
        have hb' : b < w.heap.size := hb
        refine (hkp.block b (by omega) ?_).trans (h.rl.keep.block b hb hn)
        rintro (⟨k, bi, hk, hv, e⟩ | e)
        · rcases h.rl.own k bi hk hv with h' | h'
          · have : w.heap.size ≤ bi.b := h'
            omega
          · rw [e] at h'; exact hn h'
        · omega⟩
      Xlt := hm.Xlt }
  · rcases hb with hb | ⟨hb, hb'⟩
    · exact ⟨by have := (h.lt b hb).1; omega, (h.lt b hb).2⟩
    · exact ⟨hb', fun he => by have := (h.e b he).2; omega⟩
  · rintro (⟨k, bi, hk, hv, e⟩ | e)
    · rw [← e] at hn; exact hn (h.live k bi hk hv)
    · exact hn (h.xc b (.inr (.inr e)))

theorem R.noenv {Γ : Ctx} {s : St} {a : Act} {w : World} (h : R Γ s a w) : R Γ ⟨[], s.blks, s.used⟩ a w := by
  obtain ⟨X, β, h, g⟩ := h
  refine ⟨X, β, { h with slots := fun t => .junk _, used1 := fun t k hk => by simp [St.get, lk, AV.keys] at hk }, g.sub, g.old, fun _ i t hi => by simp [St.get, lk] at hi, g.lone, g.nd, g.marks⟩
end

section
variable {Γ : Ctx} {env : List (Nat × AV)} {fx' : List Nat} {w : World} {X : Nat → Prop} {β : BM} {tm : Array Value} {D l : Nat} {B : Nat → List (Nat × Option Blk)} {U : Nat → List Nat} {ok : Nat → Prop} {rec : LoopState → Option Code → Loop} {K : Exit → St → Prop}

/-- What the caller keeps between two rounds, and behind the last. -/
def SideJ (Γ : Ctx) (fx' : List Nat) (w : World) (X : Nat → Prop) (β : BM) (D l : Nat) (rec : LoopState → Option Code → Loop) (env : List (Nat × AV)) (B : Nat → List (Nat × Option Blk)) (U : Nat → List Nat) (ok : Nat → Prop) (K : Exit → St → Prop) (tm : Array Value)
    (i : Nat) (t : Bool) (Xc E : Nat → Prop) (W : World) : Prop := ∃ β', match t with
    | false => ok i ∧ Side Γ fx' w X β D l ⟨env, B i, U i⟩ tm Xc E W β' ∧ W.heap[l]? = some (.loop (rec .ready none))
    | true => ∃ (c : Code) (e : Exit) (s2 : St), ((c = Code.ret ∧ e = Exit.ret) ∨ ∃ id, c = Code.exit id ∧ e = Exit.exit id) ∧ K e ⟨env, s2.blks, s2.used⟩ ∧ Side Γ fx' w X β D l ⟨env, s2.blks, s2.used⟩ tm Xc E W β' ∧ W.heap[l]? = some (.loop (rec .done (some c)))

theorem SideJ.stable (hD : D = w.heap.size) (hl : l = w.heap.size + 1) (hX : ∀ b, X b → b < w.heap.size) {i : Nat} {t : Bool} {Xc E E' : Nat → Prop} {W W' : World} (hJ : SideJ Γ fx' w X β D l rec env B U ok K tm i t Xc E W) (hk : Kp E W W') (hE : ∀ b, E' b → (E b ∨ W.heap.size ≤ b) ∧ b < W'.heap.size) :
    SideJ Γ fx' w X β D l rec env B U ok K tm i t Xc E' W' := by
  obtain ⟨β', hJ⟩ := hJ
  cases t with
  | false =>
    obtain ⟨ho, hs, hl'⟩ := hJ
    obtain ⟨g1, g2⟩ := hs.stable hD hl hX hk hE
    exact ⟨β', ho, g1, g2.trans hl'⟩
  | true =>
    obtain ⟨c, e, s2, hc, hKe, hs, hl'⟩ := hJ
    obtain ⟨g1, g2⟩ := hs.stable hD hl hX hk hE
    exact ⟨β', c, e, s2, hc, hKe, g1, g2.trans hl'⟩

theorem SideJ.round {ps : Array Tmp} {assign body : Code} {fn : FuncId} {xs : List (List PV)} (hD : D = w.heap.size) (hl : l = w.heap.size + 1) (hX : ∀ b, X b → b < w.heap.size) (k2 : ∀ k ∈ keysE env, k ∈ fx') (k3 : ∀ i, ∀ k ∈ fx', k ∈ U i)
    (c4 : allLt Γ.N ps.toList = true) (c5 : ∀ (i : Nat) (row : List PV), xs[i]? = some row → row.length = ps.size)
    (hr1 : (rec .ready none).fn = fn) (hr2 : (rec .ready none).tmps = tm) (hr3 : (rec .ready none).params = ps) (hr4 : (rec .ready none).assign = assign) (hr5 : (rec .ready none).body = body) (hr6 : (rec .ready none).state = .ready)
    (hr7 : ∀ jump : Option Code, some (Obj.loop { ({ rec .ready none with state := .busy } : Loop) with state := if jump.isNone then .ready else .done, pending := jump }) = some (.loop (rec (if jump.isNone then .ready else .done) jump)))
    (hround : ∀ Γ1 : Ctx, Γ1.P = Γ.P → Γ1.N = Γ.N → Γ1.fx = fx' → Γ1.y.on = false → ∀ (l i : Nat) (row : List PV), xs[i]? = some row → ok i →
      Wp Γ1 (Fence.wide.inRound l) 0 assign (paramsSt ps.toList row ⟨env, B i, U i⟩) (normalK fun s1 =>
        ∀ Γ2 : Ctx, Γ2.P = Γ.P → Γ2.N = Γ.N → Γ2.fx = fx' → Γ2.y.on = false → Wp Γ2 (Fence.wide.inRound l) 0 body s1 (roundEnd K env Γ2 (B (i + 1)) (U (i + 1)) (ok (i + 1)))))
    {i : Nat} {row : List PV} {Xc E : Nat → Prop} {W : World} {args : Array Value} (hrow : xs[i]? = some row) (hJ : SideJ Γ fx' w X β D l rec env B U ok K tm i false Xc E W) (hsz : args.size = row.length)
    (hpr : ∀ (j : Nat) (p : PV), row[j]? = some p → PR W (fun b => Xc b ∨ E b) p (args.getD j undef)) :
    YieldAt Fence.wide 0 Γ.P l args W fun e W' => ∃ t, e = .returned (.bool !t) ∧ SideJ Γ fx' w X β D l rec env B U ok K tm (i + 1) t (fun b => Xc b ∨ (W.heap.size ≤ b ∧ b < W'.heap.size)) E W' ∧ Kp Xc W W' := by
  obtain ⟨β', ho, hs, hl'⟩ := hJ
  have hcard := c5 i row hrow
  have hrun := run_yield (P := Γ.P) (args := args) hl' (by rw [hr3]; omega)
  rw [hr1, hr2, hr3, hr4, hr5] at hrun
  refine ⟨fn, _, assign, body, hrun, roundIn_of_wpIn (F := Fence.wide) trivial ?_⟩
  have hlW : l < W.heap.size := by have := hs.sz; omega
  let Γ1 : Ctx := Ctx.inRd Γ.P Γ.N W (fun b => X b ∨ b = D ∨ b = l ∨ E b) β' fx'
  have r1 : Rl (Γ1.atX Γ1.X) ⟨env, B i, U i⟩ tm W β' := { hs.rl with own := fun k bi hb hv => .inr ⟨k, bi, hb, hv, rfl⟩, fixd := fun _ _ => rfl, keep := Kp.refl _ _ }
  have r2 : Rl (Γ1.atX Γ1.X) (paramsSt ps.toList row ⟨env, B i, U i⟩) ((ps.zip args).foldl (fun tmps (t, a) => tmps.setIfInBounds t a) tm) W β' := by
    have := paramsRl (ts := ps.toList) (row := row) (us := args.toList) r1 c4 (by simp; omega) (fun j p hj => by
      have := hpr j p hj
      have e : args.toList.getD j undef = args.getD j undef := by simp [List.getD, Array.getD_eq_getD_getElem?]
      rw [e]
      refine this.mono ⟨Nat.le_refl _, fun b _ hn => ⟨rfl, fun hA => hn ?_⟩⟩
      rcases hA with (hA | hA | hA | hA) | ⟨k, bi, hk, hv, rfl⟩
      · exact .inl (hs.xc b (.inl hA))
      · exact .inl (hs.xc b (.inr (.inl hA)))
      · exact .inl (hs.xc b (.inr (.inr hA)))
      · exact .inr hA
      · exact .inl (hs.live k bi hk hv))
    rw [← Array.foldl_toList, Array.toList_zip]
    exact this
  have hR1 : R Γ1 (paramsSt ps.toList row ⟨env, B i, U i⟩) { tmps := (ps.zip args).foldl (fun tmps (t, a) => tmps.setIfInBounds t a) tm, defers := [] } W :=
    ⟨Γ1.X, β', r2, fun _ h => h, fun _ _ h => h, (fun h => by cases h), (fun h => by cases h), List.nodup_nil, (fun d hd => by cases hd)⟩
  refine wpIn_mono (hround Γ1 rfl rfl rfl rfl l i row hrow ho _ W hR1) ?_
  rintro e a1 w1 ⟨s1, hK1, X1, β1, h1, g1⟩
  cases e with
  | normal =>
    have hlX1 : X1 l := g1.sub l (.inr (.inr (.inl rfl)))
    have hl1 : w1.heap[l]? = some (.loop (rec .ready none)) := (h1.keep.block l hlW (by rintro ⟨k, bi, hk, hv, e⟩; exact hs.rl.notX k bi hk hv (.inr (.inr (.inl e))))).trans hl'
    have hlt1 : l < w1.heap.size := (Array.getElem?_eq_some_iff.1 hl1).1
    refine ⟨_, run_beginRound hl1 hr6, ?_⟩
    generalize hw2 : w1.putObj l (.loop { rec .ready none with state := .busy }) = w2
    have hl2 : w2.heap[l]? = some (.loop { rec .ready none with state := .busy }) := by rw [← hw2]; exact World.putObj_heap_same hlt1
    have hkp2 : Kp (fun b => b = l) w1 w2 := by rw [← hw2]; exact kp_putObj _ _ rfl
    have r3 := Rl.turn (X' := X1) h1 hkp2 (fun b hb => by rw [hb]; exact hlX1) (fun b _ hb => hb) (fun b hb => Nat.lt_of_lt_of_le (h1.Xlt b hb) hkp2.size)
    let Γ2 : Ctx := Ctx.inRd Γ.P Γ.N w2 X1 β1 fx'
    have hR2 : R Γ2 s1 a1 w2 := ⟨X1, β1, r3, fun _ h => h, fun _ _ h => h, (fun h => by cases h), (fun h => by cases h), g1.nd, fun d hd => by
      obtain ⟨D', d1, d2, d3, d4⟩ := g1.marks d hd
      refine ⟨D', d1, (hkp2.block D' (Array.getElem?_eq_some_iff.1 d2).1 ?_).trans d2, (fun h => by cases h), d4⟩
      rintro rfl
      rw [hl1] at d2; cases d2⟩
    refine wpIn_mono (hK1 Γ2 rfl rfl rfl rfl a1 w2 hR2) ?_
    rintro e a2 w3 ⟨s2, hK2, hR3⟩
    have hl3 : w3.heap[l]? = some (.loop { rec .ready none with state := .busy }) := by
      obtain ⟨X3, β3, h3, g3⟩ := hR3
      exact (h3.keep.block l (Array.getElem?_eq_some_iff.1 hl2).1 (by rintro ⟨k, bi, hk, hv, e⟩; exact h1.notX k bi hk hv (e ▸ hlX1))).trans hl2
    have hlt3 : l < w3.heap.size := (Array.getElem?_eq_some_iff.1 hl3).1
    have fin : ∀ (jump : Option Code) (s3 : St), R Γ2 s3 a2 w3 → (∀ k ∈ keysE env, k ∈ s3.used) → ∃ v w', (Instr.endRound l jump).run Γ.P w3 = .ok v w' ∧ v = .bool jump.isNone ∧
        w'.heap[l]? = some (.loop (rec (if jump.isNone then .ready else .done) jump)) ∧ ∃ β4, Side Γ fx' w X β D l ⟨env, s3.blks, s3.used⟩ tm (fun b => Xc b ∨ (W.heap.size ≤ b ∧ b < w'.heap.size)) E w' β4 ∧ Kp Xc W w' := fun jump s3 hR3 hsu => by
      refine ⟨_, _, run_endRound jump hl3, rfl, ?_, ?_⟩
      · rw [World.putObj_heap_same hlt3]; exact hr7 jump
      · exact hs.after rfl hD hl hX k2 h1 (fun b hb => g1.sub b hb) _ hw2.symm hR3 hsu rfl
    cases e with
    | normal =>
      obtain ⟨v, w', q1, q2, q3, β4, q4, q5⟩ := fin none ⟨[], B (i + 1), U (i + 1)⟩ (hK2.1 _ _ hR3.noenv) (fun k hk => k3 _ k (k2 k hk))
      exact ⟨v, w', q1, false, by rw [q2]; rfl, ⟨β4, hK2.2, q4, q3⟩, q5⟩
    | ret =>
      obtain ⟨v, w', q1, q2, q3, β4, q4, q5⟩ := fin (some .ret) s2 hR3 (subB_spec hK2.1)
      exact ⟨v, w', q1, true, by rw [q2]; rfl, ⟨β4, .ret, .ret, s2, .inl ⟨rfl, rfl⟩, hK2.2, q4, q3⟩, q5⟩
    | exit id =>
      obtain ⟨v, w', q1, q2, q3, β4, q4, q5⟩ := fin (some (.exit id)) s2 hR3 (subB_spec hK2.1)
      exact ⟨v, w', q1, true, by rw [q2]; rfl, ⟨β4, .exit id, .exit id, s2, .inr ⟨id, rfl, rfl⟩, hK2.2, q4, q3⟩, q5⟩
    | goto t => exact hK2.elim
    | panic ch => exact hK2.elim
    | outgrown => exact hK2.elim
  | ret => exact hK1.elim
  | exit id => exact hK1.elim
  | goto t => exact hK1.elim
  | panic ch => exact hK1.elim
  | outgrown => exact hK1.elim
end

set_option maxHeartbeats 400000 in
/-- **A loop over a function.** -/
theorem Wp.rangeFunc {Γ : Ctx} {n : Nat} {g : Operand} {ps : Array Tmp} {assign body : Code} {s : St} {K : Exit → St → Prop} {f : FuncId} {caps : List PV} {xs : List (List PV)} (hI : ISpec Γ.P f caps xs)
    (env : List (Nat × AV)) (B : Nat → List (Nat × Option Blk)) (U : Nat → List Nat) (fx' : List Nat) (ok : Nat → Prop) (h0 : Le Γ s ⟨env, B 0, U 0⟩) (hg : St.geto ⟨env, B 0, U 0⟩ g = .pure (.fn f caps)) (hoff : Γ.y.on = false) (ok0 : ok 0)
    (c1 : subB Γ.fx fx' = true) (c2 : subB (keysE env) fx' = true) (c3 : ∀ i, subB fx' (U i) = true) (c4 : allLt Γ.N ps.toList = true) (c5 : ∀ (i : Nat) (row : List PV), xs[i]? = some row → row.length = ps.size)
    (hround : ∀ Γ1 : Ctx, Γ1.P = Γ.P → Γ1.N = Γ.N → Γ1.fx = fx' → Γ1.y.on = false → ∀ (l i : Nat) (row : List PV), xs[i]? = some row → ok i →
      Wp Γ1 (Fence.wide.inRound l) 0 assign (paramsSt ps.toList row ⟨env, B i, U i⟩) (normalK fun s1 =>
        ∀ Γ2 : Ctx, Γ2.P = Γ.P → Γ2.N = Γ.N → Γ2.fx = fx' → Γ2.y.on = false → Wp Γ2 (Fence.wide.inRound l) 0 body s1 (roundEnd K env Γ2 (B (i + 1)) (U (i + 1)) (ok (i + 1)))))
    (hdone : ok xs.length → K .normal ⟨env, B xs.length, U xs.length⟩) : Wp Γ Fence.wide n (.rangeFunc g ps assign body) s K := by
  intro a w hR
  have k2 := subB_spec c2
  have k3 := fun i => subB_spec (c3 i)
  obtain ⟨X, β, h, gh⟩ := h0 a w hR
  have hX : ∀ b, X b → b < w.heap.size := h.Xlt
  refine wpIn_rangeFunc fun fn hfn => ?_
  obtain ⟨D, hD⟩ : ∃ D, D = w.heap.size := ⟨_, rfl⟩
  obtain ⟨l, hl⟩ : ∃ l, l = w.heap.size + 1 := ⟨_, rfl⟩
  obtain ⟨rec, hrec⟩ : ∃ rec : LoopState → Option Code → Loop, rec = fun st pe => { state := st, pending := pe, fn, tmps := a.tmps, params := ps, assign, body, defers := w.heap.size } := ⟨_, rfl⟩
  obtain ⟨W1, hW1⟩ : ∃ W1, (w.alloc (.deferred (some []))).alloc (.loop (rec .ready none)) = W1 := ⟨_, rfl⟩
  have hsz1 : W1.heap.size = w.heap.size + 2 := by rw [← hW1]; simp
  have hL1 : W1.heap[l]? = some (.loop (rec .ready none)) := by
    rw [← hW1, hl]; have := World.alloc_heap_new (w.alloc (.deferred (some []))) (.loop (rec .ready none)); rwa [World.size_alloc] at this
  have hold : ∀ b, b < w.heap.size + 1 → W1.heap[b]? = (w.alloc (.deferred (some []))).heap[b]? := fun b hb => by rw [← hW1]; exact heap_alloc_old _ _ (by simpa using hb)
  have hD1 : W1.heap[D]? = some (.deferred (some [])) := by rw [hold D (by omega), hD]; exact World.alloc_heap_new w _
  have hkp1 : Kp (fun _ => False) w W1 := ⟨by rw [← hW1]; rfl, by rw [← hW1]; rfl, by rw [← hW1]; rfl, by omega, fun b hb _ => by rw [hold b (by omega), heap_alloc_old _ _ hb]⟩
  have hPR : PR w (Av X β) (.fn f caps) (a.eval g) := by
    have := geto_AR h g
    rw [hg] at this
    cases this with
    | pure _ _ hp => exact hp
  -- where no round has been
  have rlE : Rl (Ctx.plain Γ.P Γ.N w (fun b => X b ∨ b = D ∨ b = l ∨ False) β fx') ⟨env, B 0, U 0⟩ a.tmps W1 β := by
    have h1 : Rl ((Ctx.plain Γ.P Γ.N w X β fx').atX X) ⟨env, B 0, U 0⟩ a.tmps w β := { h with own := fun k bi hb hv => .inr ⟨k, bi, hb, hv, rfl⟩, fixd := fun _ _ => rfl, keep := Kp.refl _ _ }
    refine h1.others hkp1 (fun b hb => hb.elim) (fun b _ hb => hb.elim) (fun b hb hx => ?_) (fun b hx => ?_)
    · rcases hx with hx | hx | hx | hx
      · exact hx
      · omega
      · omega
      · exact hx.elim
    · rcases hx with hx | hx | hx | hx
      · have := hX b hx; omega
      · omega
      · omega
      · exact hx.elim
  let Xit : Nat → Prop := fun b => Av X β b ∨ b = D ∨ b = l
  have side0 : Side Γ fx' w X β D l ⟨env, B 0, U 0⟩ a.tmps Xit (fun _ => False) W1 β :=
    ⟨rlE, fun b hb => by rcases hb with hb | hb | hb; exact .inl (.inl hb); exact .inr (.inl hb); exact .inr (.inr hb), fun k bi hk hv => .inl (.inr ⟨k, bi, hk, hv, rfl⟩), fun b hb => ⟨by
      rcases hb with hb | hb | hb
      · have := h.Avlt b hb; omega
      · omega
      · omega, fun h => h⟩, fun b hb => hb.elim, by omega, hD1⟩
  obtain ⟨y, y1, y2, y3, y4, y5⟩ : ∃ y : Yl Γ.P, y.on = true ∧ y.rd = false ∧ y.xs = xs ∧ y.l = l ∧ y.J = SideJ Γ fx' w X β D l rec env B U ok K a.tmps := ⟨
  { on := true
    rd := false
    l := l
    xs := xs
    J := SideJ Γ fx' w X β D l rec env B U ok K a.tmps
    stable := fun i t Xc E E' W W' hJ hk hE => SideJ.stable hD hl hX hJ hk hE
    round := fun i row Xc E W args _ hrow hJ _ hsz hpr => SideJ.round hD hl hX k2 k3 c4 c5 (by rw [hrec]) (by rw [hrec]) (by rw [hrec]) (by rw [hrec]) (by rw [hrec]) (by rw [hrec]) (fun jump => by rw [hrec]) hround hrow hJ hsz hpr }, rfl, rfl, rfl, rfl, rfl⟩
  have hy0 : y.J 0 false Xit (fun _ => False) W1 := by rw [y5]; exact ⟨β, ok0, side0, hL1⟩
  have hPR1 : PR W1 Xit (.fn f caps) (a.eval g) := by
    refine hPR.mono ⟨by omega, fun b hb hn => ⟨hkp1.block b hb fun h => h, ?_⟩⟩
    rintro (hx | hx | hx)
    · exact hn hx
    · omega
    · omega
  obtain ⟨cv, hev, hcl, hcp⟩ : ∃ cv : Array Value, a.eval g = .func (.func f) #[] cv ∧ cv.size = caps.length ∧ ∀ (j : Nat) (p : PV), caps[j]? = some p → PR W1 Xit p (cv.getD j undef) := by
    generalize a.eval g = v at hPR1
    cases hPR1 with
    | fn _ _ vs hl hp => exact ⟨vs, rfl, hl, hp⟩
  have hcall := hI.2 W1 Xit cv y y1 y2 y3 hcl hcp (fun b hb => (side0.lt b hb).1) hy0
  rw [y4, y5] at hcall
  refine ⟨l, [{ target := .collected D, args := #[] }], W1, { target := .fn (.func f) cv, args := #[.func (.yield l) #[] #[]] }, W1, f, #[.func (.yield l) #[] #[]] ++ cv, W1, ?_, ?_, fun f' _ => trivial, ?_, (fun hd => by cases hd), callsIn_wide.2 ?_⟩
  · have := run_enterLoop_outer (P := Γ.P) (w := w) fn a.tmps ps assign body
    rw [hl, hD, ← hW1, hrec]
    exact this
  · simp only [resolve, hev, Deferred.ofValue, Sem.run_pure]
    simp [go_sem]
  · simp only [invoke]
    exact hI.1 _ _
  · refine hcall.mono ?_
    rintro e w3 ⟨⟨v, rfl⟩, i, t, Xc, E, hit, β', hJ⟩
    -- what is left to the caller
    have back : ∀ {s3 : St} {w4 : World} (o : Obj), Side Γ fx' w X β D l s3 a.tmps Xc E w3 β' → w4 = w3.putObj l o → R Γ s3 { a with defers := [{ target := .collected D, args := #[] }] ++ a.defers } w4 := fun {s3 w4} o hs hw4 => by
      have kps : Kp (fun b => b = l) w3 w4 := by rw [hw4]; exact kp_putObj o _ rfl
      have z4 : w4.heap.size = w3.heap.size := by rw [hw4, World.putObj_size]
      have hsz3 := hs.sz
      have r1 := Rl.others (Γ := Ctx.plain Γ.P Γ.N w X β fx') (X' := fun b => X b ∨ b = D ∨ b = l) hs.rl kps (fun b hb => .inr (.inr (.inl hb))) (fun b hb he => by have : b < w.heap.size := hb; omega) (fun b _ hx => by
        rcases hx with hx | hx | hx
        · exact .inl hx
        · exact .inr (.inl hx)
        · exact .inr (.inr (.inl hx))) (fun b hx => by
        rcases hx with hx | hx | hx
        · have := hX b hx; omega
        · omega
        · omega)
      have hw0 := h.keep.size
      have hw0' : Γ.w0.heap.size ≤ w.heap.size := hw0
      have k3w : ∀ b, b < w.heap.size → ¬ Ex β b → w4.heap[b]? = w.heap[b]? := fun b hb he => (kps.block b (by omega) (by omega)).trans (hs.rl.keep.block b hb he)
      refine ⟨fun b => X b ∨ b = D ∨ b = l, β', ?_, fun b hb => .inl (gh.sub b hb), fun b hb hx => ?_, (fun hon => by rw [hoff] at hon; cases hon), (fun hon => by rw [hoff] at hon; cases hon), ?_, fun d hd => ?_⟩
      · exact
        { r1 with
          own := fun k bi hb hv => by
            rcases r1.own k bi hb hv with h1 | ⟨j, bj, hj, hvj, e⟩
            · exact .inl (Nat.le_trans hw0 h1)
            · have := h.own j bj hj hvj
              rwa [e] at this
          fixd := fun k hk => (r1.fixd k (subB_spec c1 k hk)).trans (h.fixd k hk)
          keep := ⟨r1.keep.os.trans h.keep.os, r1.keep.tape.trans h.keep.tape, r1.keep.output.trans h.keep.output, Nat.le_trans h.keep.size r1.keep.size, fun b hb he => (k3w b (Nat.lt_of_lt_of_le hb hw0) (by
            rintro ⟨k, bi, hk, hv, rfl⟩
            rcases h.own k bi hk hv with h1 | h1
            · have h1' : Γ.w0.heap.size ≤ bi.b := h1
              have hb' : bi.b < Γ.w0.heap.size := hb
              omega
            · exact he h1)).trans (h.keep.block b hb he)⟩ }
      · rcases hx with hx | hx | hx
        · exact gh.old b hb hx
        · omega
        · omega
      · refine List.nodup_cons.2 ⟨fun hm => ?_, gh.nd⟩
        obtain ⟨D', d1, d2, _, d4⟩ := gh.marks _ hm
        have e : D = D' := by injection d1 with d1; injection d1
        have := (Array.getElem?_eq_some_iff.1 d2).1
        omega
      · rcases List.mem_cons.1 hd with rfl | hd
        · exact ⟨D, rfl, (kps.block D (by omega) (by omega)).trans hs.dd, fun _ => by omega, .inr (.inl rfl)⟩
        · obtain ⟨D', d1, d2, d3, d4⟩ := gh.marks d hd
          have hlt := (Array.getElem?_eq_some_iff.1 d2).1
          exact ⟨D', d1, (k3w D' hlt (by rintro ⟨k, bi, hk, hv, e⟩; exact h.notX k bi hk hv (e ▸ d4))).trans d2, d3, .inl d4⟩
    cases t with
    | false =>
      obtain ⟨ho, hs, hl3⟩ := hJ
      have := hit rfl
      subst this
      have hend := run_endLoop (P := Γ.P) hl3 (by rw [hrec]; simp)
      have hp : (rec .ready none).pending = none := by rw [hrec]
      rw [hp] at hend
      refine ⟨none, _, hend, ?_⟩
      exact ⟨_, hdone ho, back _ hs rfl⟩
    | true =>
      obtain ⟨c, e, s2, hc, hKe, hs, hl3⟩ := hJ
      have hend := run_endLoop (P := Γ.P) hl3 (by rw [hrec]; simp)
      have hp : (rec .done (some c)).pending = some c := by rw [hrec]
      rw [hp] at hend
      refine ⟨some c, _, hend, ?_⟩
      rcases hc with ⟨rfl, rfl⟩ | ⟨id, rfl, rfl⟩
      · exact wpIn_ret ⟨_, hKe, back _ hs rfl⟩
      · exact wpIn_exit ⟨_, hKe, back _ hs rfl⟩
end Go.Avc
