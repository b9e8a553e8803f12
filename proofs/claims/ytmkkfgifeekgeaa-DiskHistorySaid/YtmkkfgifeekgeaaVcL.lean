/- Functions: what they return; the contract of a function by its conditions. Conditions: none. -/
import Derived.Test.YtmkkfgifeekgeaaVcK
namespace Go.Avc
open Go.RowKit

def resVC (P : Program) (s : St) : List ResultVar → (List AV → Prop) → Prop
  | [], K => K []
  | .tmp t :: l, K => resVC P s l fun vs => K (s.get t :: vs)
  | .cell a t :: l, K => opLoad P t (s.get a) s.blk fun v _ => resVC P s l fun vs => K (v :: vs)

def retVC (P : Program) (fn : Func) (s : St) (res : PV) : Prop :=
  resVC P s fn.results.toList fun vs => match vs with
    | [v] => match toPV s.blk v with
      | some p => PSub p res
      | none => False
    | vs => match toPVL s.blk vs with
      | some ps => PSub (.tup ps) res
      | none => False

/-- How a function ends. -/
def endVC (P : Program) (fn : Func) (res : PV) (e : Exit) (s : St) : Prop :=
  match e with
  | .normal => retVC P fn s res
  | .ret => retVC P fn s res
  | _ => False

def argsEnv : Nat → List PV → List (Nat × AV)
  | _, [] => []
  | i, p :: l => (i, .pure p) :: argsEnv (i + 1) l

def startSt (args : List PV) : St := ⟨argsEnv 0 args, [], []⟩

section
variable {Γ : Ctx} {s : St} {a : Act} {w : World} {β : BM}

def resSem (tmps : Array Value) : ResultVar → Sem Value
  | .tmp t => pure (tmps.getD t undef)
  | .cell x t => do loadVar t (← asAddr (tmps.getD x undef))

theorem results_eq (fn : Func) (tmps : Array Value) : results fn tmps = (do let vs ← fn.results.mapM (resSem tmps); pure (if h : vs.size = 1 then vs[0] else .tuple vs)) := by
  unfold results
  congr 1

theorem mapM_run {P : Program} {α : Type} {g : α → Sem Value} {w : World} : ∀ {l : List α} {us : List Value}, l.length = us.length → (∀ (j : Nat) (x : α), l[j]? = some x → (g x).run P w = .ok (us.getD j undef) w) → (l.mapM g).run P w = .ok us w
  | [], [], _, _ => by simp
  | x :: l, u :: us, hl, h => by
    have h0 := h 0 x (by simp)
    simp only [List.getD_cons_zero] at h0
    have h1 := mapM_run (P := P) (g := g) (w := w) (l := l) (us := us) (by simpa using hl) fun j y hj => by simpa using h (j + 1) y (by simpa using hj)
    rw [List.mapM_cons, Sem.run_bind, h0, Result.andThen_ok, Sem.run_bind, h1, Result.andThen_ok]
    rfl
  | [], _ :: _, hl, _ => by simp at hl
  | _ :: _, [], hl, _ => by simp at hl

theorem resVC_sound (h : Rl Γ s a.tmps w β) : ∀ {l : List ResultVar} {K : List AV → Prop}, resVC Γ.P s l K →
    ∃ (vs : List AV) (us : List Value), K vs ∧ vs.length = us.length ∧ us.length = l.length ∧ (∀ (j : Nat) (v : AV), vs[j]? = some v → AR w (Av Γ.X β) β v (us.getD j undef)) ∧
      ∀ (j : Nat) (x : ResultVar), l[j]? = some x → (resSem a.tmps x).run Γ.P w = .ok (us.getD j undef) w
  | [], K, hK => ⟨[], [], hK, rfl, rfl, by simp, by simp⟩
  | .tmp t :: l, K, hK => by
    obtain ⟨vs, us, h1, h2, h3, h4, h5⟩ := resVC_sound h (l := l) hK
    refine ⟨_, a.tmps.getD t undef :: us, h1, by simp [h2], by simp [h3], fun j v hj => ?_, fun j x hj => ?_⟩
    · cases j with
      | zero => simp at hj; subst hj; exact h.slots t
      | succ j => simpa using h4 j v (by simpa using hj)
    · cases j with
      | zero => simp at hj; subst hj; rfl
      | succ j => simpa using h5 j x (by simpa using hj)
  | .cell x t :: l, K, hK => by
    obtain ⟨v, u, hv, hr, hva, _⟩ := load_sound h (h.slots x) hK
    obtain ⟨vs, us, h1, h2, h3, h4, h5⟩ := resVC_sound h (l := l) hv
    refine ⟨_, u :: us, h1, by simp [h2], by simp [h3], fun j v' hj => ?_, fun j y hj => ?_⟩
    · cases j with
      | zero => simp at hj; subst hj; exact hva
      | succ j => simpa using h4 j v' (by simpa using hj)
    · cases j with
      | zero =>
        simp at hj; subst hj
        simp only [List.getD_cons_zero]
        cases hx : a.tmps.getD x undef with
        | pointer p =>
          cases p with
          | some ad => rw [hx] at hr; simpa [Instr.loadAt, Instr.sureAddr, asAddr, resSem, hx] using hr
          | none => rw [hx] at hr; simp [Instr.loadAt, Instr.sureAddr] at hr
        | _ => rw [hx] at hr; simp [Instr.loadAt, Instr.sureAddr] at hr
      | succ j => simpa using h5 j y (by simpa using hj)

theorem ret_sound {fn : Func} {res : PV} (h : Rl Γ s a.tmps w β) (hK : retVC Γ.P fn s res) : ∃ v, (results fn a.tmps).run Γ.P w = .ok v w ∧ PR w Γ.X res v := by
  obtain ⟨vs, us, h1, h2, h3, h4, h5⟩ := resVC_sound h hK
  have hm := mapM_run (P := Γ.P) (w := w) (g := resSem a.tmps) h3.symm h5
  have hr : (results fn a.tmps).run Γ.P w = .ok (if h : us.toArray.size = 1 then us.toArray[0] else .tuple us.toArray) w := by
    rw [results_eq, Sem.run_bind]
    have : fn.results.mapM (resSem a.tmps) = (Functor.map List.toArray (fn.results.toList.mapM (resSem a.tmps))) := by
      rw [← List.mapM_toArray]
    rw [this, Sem.run_map, hm, Result.andThen_ok, Result.andThen_ok]
    rfl
  split at h1
  · rename_i v
    obtain ⟨u, rfl⟩ := List.length_eq_one_iff.1 h2.symm
    split at h1
    · rename_i p hp
      have hu := h4 0 v (by simp)
      exact ⟨u, by rw [hr]; simp, h1 _ _ _ (h.out hu hp)⟩
    · exact h1.elim
  · rename_i hne
    split at h1
    · rename_i ps hps
      obtain ⟨q1, q2⟩ := toPVL_some hps
      refine ⟨.tuple us.toArray, ?_, h1 _ _ _ (.tup _ _ (by simp; omega) fun j p hj => ?_)⟩
      · rw [hr, dif_neg]
        intro hs
        have : vs.length = 1 := by rw [h2]; simpa using hs
        obtain ⟨v, rfl⟩ := List.length_eq_one_iff.1 this
        exact hne v rfl
      · obtain ⟨x, hx, hxp⟩ := q2 j p hj
        have := h.out (h4 j x hx) hxp
        simpa [Array.getD_eq_getD_getElem?] using this
    · exact h1.elim

theorem argsEnv_get : ∀ {i : Nat} {args : List PV} {t : Nat} {v : AV}, lk (argsEnv i args) t = some v → ∃ p, args[t - i]? = some p ∧ i ≤ t ∧ v = .pure p
  | i, [], t, v, h => by cases h
  | i, p :: l, t, v, h => by
    simp only [argsEnv] at h
    rw [lk_cons] at h
    split at h
    · rename_i e; subst e; cases h
      exact ⟨p, by simp, Nat.le_refl _, rfl⟩
    · obtain ⟨q, h1, h2, h3⟩ := argsEnv_get h
      refine ⟨q, ?_, by omega, h3⟩
      rw [show t - i = (t - (i + 1)) + 1 from by omega]
      simpa using h1

theorem kp_putObj {w : World} {D : Nat} (o : Obj) (E : Nat → Prop) (hD : E D) : Kp E w (w.putObj D o) :=
  ⟨rfl, rfl, rfl, by rw [World.putObj_size]; exact Nat.le_refl _, fun b _ he => World.putObj_heap_other fun e => he (e ▸ hD)⟩

theorem leavesM {P : Program} {fn : Func} {tmps : Array Value} {Rr : Ending → World → Prop} {E : Nat → Prop} : ∀ (ds : List Deferred) (w : World), ds.Nodup →
    (∀ d ∈ ds, ∃ D, d = { target := .collected D, args := #[] } ∧ w.heap[D]? = some (.deferred (some [])) ∧ E D) →
    (∀ w', Kp E w w' → w'.heap.size = w.heap.size → (ds = [] → w' = w) → ∃ v, (results fn tmps).run P w' = .ok v w' ∧ Rr (.returned v) w') →
    LeavesInM Fence.wide 0 P fn tmps Rr ds .returning w
  | [], w, _, _, h => h w (Kp.refl _ _) rfl fun _ => rfl
  | d :: ds, w, hn, hm, h => by
    obtain ⟨D, rfl, hD, hE⟩ := hm d List.mem_cons_self
    refine ⟨by simp, .inl ⟨D, _, rfl, run_takeDeferred hD, leavesM (E := E) ds _ (List.nodup_cons.1 hn).2 (fun d' hd' => ?_) fun w' hk hs _ => ?_⟩⟩
    · obtain ⟨D', h1, h2, h3⟩ := hm d' (List.mem_cons_of_mem _ hd')
      refine ⟨D', h1, ?_, h3⟩
      rw [World.putObj_heap_other]
      · exact h2
      · rintro rfl
        exact (List.nodup_cons.1 hn).1 (h1 ▸ hd')
    · exact h w' ((kp_putObj (w := w) (.deferred none) E hE).trans hk) (by rw [hs, World.putObj_size]) (fun e => by cases e)

/-- The function is left. -/
theorem R.leave {Γ : Ctx} {s : St} {a : Act} {w : World} {fn : Func} {Rr : Ending → World → Prop} (hR : R Γ s a w) (hrd : Γ.y.rd = false)
    (fin : ∀ X β w', Rl (Γ.atX X) s a.tmps w' β → (∀ b, Γ.X b → X b) → (∀ b, b < Γ.w0.heap.size → X b → Γ.X b) → (Γ.y.on = true → ∀ i t, s.get Γ.N = .gh i t → Γ.y.J i t X (Ex β) w') → ∃ v, (results fn a.tmps).run Γ.P w' = .ok v w' ∧ Rr (.returned v) w') :
    LeavesInM Fence.wide 0 Γ.P fn a.tmps Rr a.defers .returning w := by
  obtain ⟨X, β, h, g⟩ := hR
  refine leavesM (E := fun b => Γ.w0.heap.size ≤ b ∧ X b) a.defers w g.nd (fun d hd => by obtain ⟨D, h1, h2, h3, h4⟩ := g.marks d hd; exact ⟨D, h1, h2, h3 hrd, h4⟩) fun w' hk hs he => ?_
  refine fin X β w' (h.others (Γ := Γ) hk (fun b hb => hb.2) (fun b hb hb' => by omega) (fun b _ hb => hb) (fun b hb => Nat.lt_of_lt_of_le (h.Xlt b hb) hk.size)) g.sub g.old fun hon i t hi => ?_
  rw [he (g.lone hon)]
  exact g.gh hon i t hi

theorem frame_getD (vs : Array Value) (n t : Nat) : (vs ++ Array.replicate n undef).getD t undef = vs.getD t undef := by
  rw [Array.getD_eq_getD_getElem?, Array.getD_eq_getD_getElem?]
  by_cases ht : t < vs.size
  · rw [Array.getElem?_append_left ht]
  · rw [Array.getElem?_append_right (by omega), Array.getElem?_eq_none (xs := vs) (by omega)]
    cases hx : (Array.replicate n undef)[t - vs.size]? with
    | none => rfl
    | some x =>
      obtain ⟨_, hx⟩ := Array.getElem?_eq_some_iff.1 hx
      simp at hx
      rw [← hx]
      rfl

theorem startSt_get (args : List PV) (t : Nat) : (startSt args).get t = .junk ∨ ∃ p, args[t]? = some p ∧ (startSt args).get t = .pure p := by
  cases hl : lk (argsEnv 0 args) t with
  | none => exact .inl (by simp [St.get, startSt, hl])
  | some v =>
    obtain ⟨p, h1, _, rfl⟩ := argsEnv_get hl
    exact .inr ⟨p, by simpa using h1, by simp [St.get, startSt, hl]⟩

/-- **The contract of a function, by its verification condition.** -/
theorem PSpec.of_vc {P : Program} {f : FuncId} {fn : Func} {c : Code} {args : List PV} {res : PV} (more : Ctx → St → Oper → Kont → Prop) (hmore : ∀ Γ, MoreOK (more Γ) Γ) (hf : P.funcs[f]? = some fn) (hb : fn.body = some c)
    (hcall : ∀ (vs : Array Value) (w : World), (callFunc f vs).run P w = .ok (.enter f vs) w) (hl : args.length ≤ fn.ntmps)
    (h : ∀ Γ : Ctx, Γ.P = P → Γ.N = fn.ntmps → Γ.fx = [] → Γ.y.on = false → vcCode (more Γ) Γ Fence.wide 0 c (startSt args) (endVC P fn res)) : PSpec P f args res := by
  refine ⟨hcall, fun w X vs hsz hv hX => ?_⟩
  refine (callsIn_wide (n := 0)).1 (callsIn_of_wp_marks hf hb trivial ?_)
  let Γ : Ctx := Ctx.plain P fn.ntmps w X (fun _ => none) []
  have hs := code_sound (hmore Γ) FOK.wide c (h Γ rfl rfl rfl rfl)
  have hR : R Γ (startSt args) { tmps := vs ++ Array.replicate (fn.ntmps - vs.size) undef, defers := [] } w := by
    refine ⟨X, fun _ => none, ?_, fun _ h => h, fun _ _ h => h, (fun h => by cases h), (fun h => by cases h), List.nodup_nil, (fun d hd => by cases hd)⟩
    refine
    { size := by show (vs ++ Array.replicate (fn.ntmps - vs.size) undef).size = fn.ntmps; rw [Array.size_append, Array.size_replicate]; omega
      slots := fun t => ?_
      blks := fun k => by simp [St.blk, startSt, lk, BO]
      inj := fun k k' bi bi' hk => by cases hk
      lt := fun k bi hk => by cases hk
      notX := fun k bi hk => by cases hk
      own := fun k bi hk => by cases hk
      fixd := fun k hk => rfl
      used1 := fun t k hk => by
        rcases startSt_get args t with e | ⟨p, _, e⟩ <;> rw [e] at hk <;> simp [AV.keys] at hk
      used2 := fun k b hk => by simp [St.blk, startSt, lk] at hk
      keep := Kp.refl _ _
      Xlt := hX }
    show AR w (Av X fun _ => none) _ _ _
    rw [frame_getD]
    rcases startSt_get args t with e | ⟨p, hp, e⟩
    · rw [e]; exact .junk _
    · rw [e]
      refine .pure _ _ ((hv t p hp).mono ⟨Nat.le_refl _, fun b _ hb => ⟨rfl, ?_⟩⟩)
      rintro (hx | ⟨k, bi, hk, _⟩)
      · exact hb hx
      · cases hk
  refine wpIn_mono (hs _ w hR) ?_
  rintro e a' w' ⟨s', hK, hr⟩
  have fin : retVC P fn s' res → LeavesInM Fence.wide 0 P fn a'.tmps (fun e w'' => ∃ v, e = .returned v ∧ PR w'' X res v ∧ Kp (fun _ => False) w w'') a'.defers .returning w' := fun hK =>
    hr.leave rfl fun X' β w'' hr' hsub _ _ => by
      obtain ⟨v, h1, h2⟩ := ret_sound (Γ := Γ.atX X') hr' hK
      refine ⟨v, h1, v, rfl, h2.mono ⟨Nat.le_refl _, fun b _ hb => ⟨rfl, fun hx => hb (hsub b hx)⟩⟩, ?_⟩
      have hk := hr'.keep
      exact ⟨hk.os, hk.tape, hk.output, hk.size, fun b hb _ => hk.block b hb (by rintro ⟨k, bi, h, _⟩; cases h)⟩
  cases e with
  | normal => exact fin hK
  | ret => exact fin hK
  | exit id => exact hK.elim
  | goto l => exact hK.elim
  | panic c => exact hK.elim
  | outgrown => exact hK.elim
end

theorem PSub.val_int {k : IntKind} {a b : Int} (h : a = b) : PSub (.val (.int k a)) (.val (.int k b)) := PSub.of_eq (by rw [h])
theorem PSub.val_bool {a b : Bool} (h : a = b) : PSub (.val (.bool a)) (.val (.bool b)) := PSub.of_eq (by rw [h])
theorem wI {n : Int} (h : -9223372036854775808 ≤ n ∧ n ≤ 9223372036854775807) : IntKind.i64.wrap n = n := IntWalk.i64_in n h
theorem getMapI {α : Type} {f : α → List PV} {l : List α} {k : Nat} (h : k < l.length) : (l.map f)[((k : Nat) : Int).toNat]? = some (f l[k]) := by simp [h]
@[simp] theorem cells_int (k : IntKind) (n : Int) : (Value.int k n).cells = #[.int k n] := rfl
@[simp] theorem cells_bool (b : Bool) : (Value.bool b).cells = #[.bool b] := rfl
@[simp] theorem cells_string (b : ByteArray) : (Value.string b).cells = #[.string b] := rfl
@[simp] theorem cells_slice (a : Option Addr) (n c : Nat) : (Value.slice a n c).cells = #[.slice a n c] := rfl
@[simp] theorem cells_agg (cs : Array Value) : (Value.agg cs).cells = cs := rfl
theorem getMapZ {α : Type} {f : α → List PV} {l : List α} {n : Int} (h : n.toNat < l.length) : (l.map f)[n.toNat]? = some (f (l[n.toNat]'h)) := by simp [h]
theorem getMapN {α : Type} {f : α → List PV} {l : List α} {n : Nat} (h : n < l.length) : (l.map f)[n]? = some (f (l[n]'h)) := by simp [h]
theorem SubA.lsl {B : Nat → Option Blk} {k i n m : Nat} (h : n = m) : SubA B (.lsl k i n) (.lsl k i m) := .inl (by rw [h])
theorem SubA.sl {B : Nat → Option Blk} {sz : Nat} {a b : List (List PV)} (h : a = b) : SubA B (.pure (.sl sz a)) (.pure (.sl sz b)) := .inl (by rw [h])
theorem SubA.bool {B : Nat → Option Blk} {a b : Bool} (h : a = b) : SubA B (.pure (.val (.bool a))) (.pure (.val (.bool b))) := .inl (by rw [h])
theorem SubA.str {B : Nat → Option Blk} {a b : ByteArray} (h : a = b) : SubA B (.pure (.val (.string a))) (.pure (.val (.string b))) := .inl (by rw [h])
theorem rowEq {sz : Nat} {a b : List (List PV)} (h : a = b) : some (Blk.row sz a) = some (Blk.row sz b) := by rw [h]
theorem SubA.int {B : Nat → Option Blk} {k : IntKind} {a b : Int} (h : a = b) : SubA B (.pure (.val (.int k a))) (.pure (.val (.int k b))) := .inl (by rw [h])
theorem bsel_bne {a b : Bool} {A B : Prop} (h1 : a = b → B) (h2 : ¬ a = b → A) : bsel (a != b) A B := bsel_intro (fun h => h2 fun e => by subst e; simp at h) (fun h => h1 (by simpa using h))
theorem bsel_beq {a b : Bool} {A B : Prop} (h1 : a = b → A) (h2 : ¬ a = b → B) : bsel (a == b) A B := bsel_intro (fun h => h1 (by simpa using h)) (fun h => h2 fun e => by subst e; simp at h)
theorem bsel_dec {p : Prop} [Decidable p] {A B : Prop} (h1 : p → A) (h2 : ¬ p → B) : bsel (decide p) A B :=
  bsel_intro (fun h => h1 (of_decide_eq_true h)) (fun h => h2 (of_decide_eq_false h))
theorem bsel_ndec {p : Prop} [Decidable p] {A B : Prop} (h1 : p → B) (h2 : ¬ p → A) : bsel (!decide p) A B :=
  bsel_intro (fun h => h2 (by simpa using h)) (fun h => h1 (by simpa using h))
theorem bsel_not {b : Bool} {A B : Prop} (h1 : b = true → B) (h2 : b = false → A) : bsel (!b) A B :=
  bsel_intro (fun h => h2 (by simpa using h)) (fun h => h1 (by simpa using h))
end Go.Avc
