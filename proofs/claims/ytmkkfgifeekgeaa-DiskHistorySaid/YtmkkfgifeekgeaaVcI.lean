/- The verification conditions of operations, regions, code and functions, and that they suffice. Conditions: none. -/
import Derived.Test.YtmkkfgifeekgeaaVcZ
namespace Go.Avc
open Go.RowKit

/-- What reads as p reads as q, too. -/
def PSub (p q : PV) : Prop := ∀ w A v, PR w A p v → PR w A q v
theorem PSub.refl (p : PV) : PSub p p := fun _ _ _ h => h
theorem PSub.of_eq {p q : PV} (h : p = q) : PSub p q := h ▸ PSub.refl p
theorem PSub.nil (sz : Nat) : PSub (.val (.slice none 0 0)) (.sl sz []) := fun w A v h => by rw [h.val_inv]; exact .slnil sz
theorem PSub.trans {p q r : PV} (h : PSub p q) (k : PSub q r) : PSub p r := fun w A v hp => k w A v (h w A v hp)
def SubL : List PV → List PV → Prop
  | [], [] => True
  | p :: l, q :: m => PSub p q ∧ SubL l m
  | _, _ => False
theorem SubL.get : ∀ {l m : List PV}, SubL l m → l.length = m.length ∧ ∀ (j : Nat) (q : PV), m[j]? = some q → ∃ p, l[j]? = some p ∧ PSub p q
  | [], [], _ => ⟨rfl, fun j q h => by simp at h⟩
  | p :: l, q :: m, h => by
    obtain ⟨h1, h2⟩ := h
    obtain ⟨h3, h4⟩ := SubL.get h2
    refine ⟨by simp [h3], fun j r hj => ?_⟩
    cases j with
    | zero => simp at hj; subst hj; exact ⟨p, by simp, h1⟩
    | succ j => simpa using h4 j r (by simpa using hj)
  | [], _ :: _, h => h.elim
  | _ :: _, [], h => h.elim
theorem PSub.agg {l m : List PV} (h : SubL l m) : PSub (.agg l) (.agg m) := fun w A v hp => by
  obtain ⟨h1, h2⟩ := h.get
  cases hp with
  | agg _ vs hl hp => exact .agg _ _ (by omega) fun j q hj => by obtain ⟨p, hp', hs⟩ := h2 j q hj; exact hs _ _ _ (hp j p hp')
theorem PSub.tup {l m : List PV} (h : SubL l m) : PSub (.tup l) (.tup m) := fun w A v hp => by
  obtain ⟨h1, h2⟩ := h.get
  cases hp with
  | tup _ vs hl hp => exact .tup _ _ (by omega) fun j q hj => by obtain ⟨p, hp', hs⟩ := h2 j q hj; exact hs _ _ _ (hp j p hp')


/-- The fences used here: everything is allowed; maybe inside a round of a loop over a function. -/
structure FOK (F : Fence) : Prop where
  fn : ∀ f, F.fn f
  depth : F.depth = none
  calls : ∀ (n : Nat) (P : Program) (f : FuncId) (args : Array Value) (w : World) (R : Ending → World → Prop), Calls P f args w R → CallsIn F n P f args w R
  rounds : ∀ (n : Nat) (P : Program) (l : Nat) (f : FuncId) (tmps : Array Value) (assign body : Code) (w : World) (R : Ending → World → Prop), RoundIn Fence.wide 0 P l f tmps assign body w R → RoundIn F n P l f tmps assign body w R

theorem FOK.wide : FOK Fence.wide := ⟨fun _ => trivial, rfl, fun _ _ _ _ _ _ h => callsIn_wide.2 h, fun _ _ _ _ _ _ _ _ _ h => ⟨h.1, fun c cs _ => h.2 c cs (room_wide _)⟩⟩
theorem FOK.inRound (l : Nat) : FOK (Fence.wide.inRound l) := ⟨fun _ => trivial, rfl, fun n P f args w R h => (callsIn_wide.2 h : CallsIn Fence.wide n P f args w R),
  fun n P l f tmps a b w R h => ((⟨h.1, fun c cs _ => h.2 c cs (room_wide _)⟩ : RoundIn Fence.wide n P l f tmps a b w R) : RoundIn Fence.wide n P l f tmps a b w R)⟩

def constAV : Value → AV
  | .agg cs => .pure (.agg (cs.toList.map .val))
  | v => .pure (.val v)
def St.geto (s : St) : Operand → AV
  | .tmp t => s.get t
  | .const v => constAV v
  | .func f => .fn f []
  | .global _ => .junk

/-- The contract of a function that reads what it is given, makes new memory, and returns. -/
def PSpec (P : Program) (f : FuncId) (args : List PV) (res : PV) : Prop :=
  (∀ (vs : Array Value) (w : World), (callFunc f vs).run P w = .ok (.enter f vs) w) ∧
  ∀ (w : World) (X : Nat → Prop) (vs : Array Value), vs.size = args.length → (∀ (j : Nat) (p : PV), args[j]? = some p → PR w X p (vs.getD j undef)) → (∀ b, X b → b < w.heap.size) →
    Calls P f vs w fun e w' => ∃ v, e = .returned v ∧ PR w' X res v ∧ Kp (fun _ => False) w w'

def PV.isVal : PV → Bool
  | .val _ => true
  | _ => false
def allVal : List PV → Bool
  | [] => true
  | p :: l => bif p.isVal then allVal l else false
def PV.scal : PV → Bool
  | .val _ => true
  | .tup cs => allVal cs
  | _ => false

def callVC (md : Bool) (P : Program) (f : FuncId) (args : List AV) (blk : Nat → Option Blk) (fx : List Nat) (K : Kont) : Prop :=
  match toPVL blk args with
  | none => False
  | some ps => ∃ res, PSpec P f ps res ∧ match res.scal with
    | true => K (.pure res) []
    | false => disj (AV.keysL args) fx = true ∧ K (.pure res) (fk md (AV.keysL args))

def guardNew (d : Nat) (used fx : List Nat) (p : Prop) : Prop :=
  match freshIn d used with
  | true => match freshIn d fx with
    | true => p
    | false => False
  | false => False


/-- A function value: which function, with what captured. -/
def fnOf : AV → Option (FuncId × List AV)
  | .fn f cs => some (f, cs)
  | .pure (.fn f cs) => some (f, pures cs)
  | _ => none
theorem fnOf_spec {w : World} {A : Nat → Prop} {β : BM} {v : AV} {u : Value} (h : AR w A β v u) {f : FuncId} {cs : List AV} (hf : fnOf v = some (f, cs)) :
    ∃ vs : Array Value, u = .func (.func f) #[] vs ∧ vs.size = cs.length ∧ ∀ (j : Nat) (p : AV), cs[j]? = some p → AR w A β p (vs.getD j undef) := by
  cases h with
  | fn g ds vs hl hp => cases hf; exact ⟨vs, rfl, hl, hp⟩
  | pure p v hp =>
    cases hp with
    | fn g ds vs hl hp =>
      cases hf
      refine ⟨vs, rfl, by simp [pures, hl], fun j p hj => ?_⟩
      obtain ⟨q, hq, rfl⟩ := pures_get hj
      exact .pure _ _ (hp j q hq)
    | val => cases hf
    | slnil => cases hf
    | sl => cases hf
    | ptr => cases hf
    | agg => cases hf
    | tup => cases hf
  | junk => cases hf
  | gh => cases hf
  | loc => cases hf
  | locDead => cases hf
  | lsl => cases hf
  | lslV => cases hf
  | lslDead => cases hf
  | agg => cases hf
  | tup => cases hf
theorem fnOf_keys {v : AV} {f : FuncId} {cs : List AV} (hf : fnOf v = some (f, cs)) : ∀ k ∈ AV.keysL cs, k ∈ v.keys := by
  cases v with
  | fn g ds => cases hf; intro k hk; exact hk
  | pure p =>
    cases p with
    | fn g ds => cases hf; intro k hk; rw [keys_pures] at hk; cases hk
    | _ => cases hf
  | _ => cases hf

/-- In a region whose order is open nothing is compared with nil. -/
def nilIn (md : Bool) (y : AV) : Bool := match md with
  | true => isNil y
  | false => false

/-- What an operation asks. More operations come in by 'more'. -/
def opVC (md : Bool) (more : St → Oper → Kont → Prop) (P : Program) (fx : List Nat) (s : St) (o : Oper) (K : Kont) : Prop :=
  match o.op with
  | .move x => force (s.geto x) K
  | .assign x => force (s.geto x) K
  | .pick c a b => opPick (s.geto c) (s.geto a) (s.geto b) K
  | .alloc t => match o.dst with
    | some d => guardNew d s.used fx (opAlloc P t d K)
    | none => False
  | .box t x => match o.dst with
    | some d => guardNew d s.used fx (opBox P t (s.geto x) d s.blk K)
    | none => False
  | .load t x => opLoad P t (s.geto x) s.blk K
  | .store t x v => opStore md P t (s.geto x) (s.geto v) s.blk fx K
  | .fieldAddr t x f => opFieldAddr P t (s.geto x) f s.blk K
  | .indexAddr t x i => opIndexAddr P t (s.geto x) (s.geto i) s.blk K
  | .field t x f => opField P t (s.geto x) f K
  | .index t x i => opIndex P t (s.geto x) (s.geto i) K
  | .binOp op t x y _ => match nilIn md (s.geto y) with
    | true => False
    | false => opBin P op t (s.geto x) (s.geto y) K
  | .unOp op _ x => opUn op (s.geto x) K
  | .extract x i => opExtract (s.geto x) i K
  | .makeFunc (.func f) first captured => match first.toList with
    | [] => K (.fn f (captured.toList.map s.geto)) []
    | _ => False
  | .call c => match c.callee with
    | .builtin .len => match c.args.toList, c.argTypes.toList with
      | [x], [t] => match lenLiveB (s.geto x) s.blk with
        | true => opLen P t (s.geto x) K
        | false => False
      | _, _ => False
    | .value f => match fnOf (s.geto f) with
      | some (f, cs) => match md with
        | true => callVC true P f (c.args.toList.map s.geto ++ cs) s.blk fx K
        | false => callVC false P f (c.args.toList.map s.geto ++ cs) s.blk fx K ∨ callG P f (c.args.toList.map s.geto ++ cs) s fx K
      | none => more s o K
    | _ => more s o K
  | _ => more s o K

def St.putD (s : St) : Option Tmp → AV → St
  | none, _ => s
  | some d, v => s.put d v
def dstOk (N : Nat) : Option Tmp → Bool
  | none => true
  | some d => Nat.blt d N

/-- The state behind an operation, written out. -/
def actC (s : St) (act : BAct) (C : St → Prop) : Prop :=
  match s with
  | ⟨e, b, u⟩ => match act with
    | .set k x => C ⟨e, (k, some x) :: b, u⟩
    | .new k x => C ⟨e, (k, some x) :: b, k :: u⟩
    | .kill k => C ⟨e, (k, none) :: b, u⟩
    | .frz k => C (St.freeze ⟨e, b, u⟩ k)
noncomputable def actsC (l : List BAct) : St → (St → Prop) → Prop :=
  List.rec (motive := fun _ => St → (St → Prop) → Prop) (fun s C => C s) (fun act _ ih s C => actC s act fun s' => ih s' C) l
def putC (s : St) (dst : Option Tmp) (v : AV) (C : St → Prop) : Prop :=
  match dst with
  | none => C s
  | some d => match s with
    | ⟨e, b, u⟩ => C ⟨(d, v) :: e, b, u⟩

/-- A call of the function that an iterator is given. -/
def isYld (s : St) (o : Oper) : Option (Nat × List Operand) := match o.op with
  | .call c => match c.callee with
    | .value f => match s.geto f with
      | .pure (.val (.func (.yield l) a b)) => match a.toList, b.toList with
        | [], [] => some (l, c.args.toList)
        | _, _ => none
      | _ => none
    | _ => none
  | _ => none
/-- What the reader must show first. -/
def Need (A B : Prop) : Prop := A ∧ B
theorem Need.intro {A B : Prop} (h : A) (k : B) : Need A B := ⟨h, k⟩
def Both (A B : Prop) : Prop := A ∧ B
theorem Both.intro {A B : Prop} (h : A) (k : B) : Both A B := ⟨h, k⟩
/-- It goes on, or it is to stop. -/
def yldSet (N d i : Nat) (C : St → Prop) (s : St) : Prop := match s with
  | ⟨e, b, u⟩ => Both (C ⟨(d, .pure (.val (.bool true))) :: (N, .gh (i + 1) false) :: e, b, u⟩) (C ⟨(d, .pure (.val (.bool false))) :: (N, .gh (i + 1) true) :: e, b, u⟩)
def yldVC {P : Program} (md : Bool) (y : Yl P) (N : Nat) (fx : List Nat) (s : St) (l : Nat) (args : List Operand) (d : Tmp) (C : St → Prop) : Prop :=
  match md with
  | true => False
  | false => match Nat.blt d N with
    | false => False
    | true => match s.get N with
    | .gh i false => match toPVL s.blk (args.map s.geto) with
      | some ps => disj (AV.keysL (args.map s.geto)) fx = true ∧ l = y.l ∧ y.on = true ∧ Need (∃ row, y.xs[i]? = some row ∧ SubL ps row) (actsC (frzs (AV.keysL (args.map s.geto))) s (yldSet N d i C))
      | none => False
    | _ => False
def opK {P : Program} (md : Bool) (more : St → Oper → Kont → Prop) (y : Yl P) (N : Nat) (fx : List Nat) (s : St) (o : Oper) (C : St → Prop) : Prop :=
  match isYld s o with
  | some (l, args) => match o.dst with
    | some d => yldVC md y N fx s l args d C
    | none => False
  | none => opVC md more P fx s o fun v acts => actsC acts s fun s' => putC s' o.dst v C

/-- One operation of a region. -/
def opsStep (md : Bool) (more : St → Oper → Kont → Prop) (P : Program) (y : Yl P) (N : Nat) (fx : List Nat) (ops : List Oper) (o : Oper) (ih : St → (St → Prop) → Prop) (s : St) (K : St → Prop) : Prop :=
  match dstOk N o.dst with
  | false => False
  | true => match o.guard with
    | none => opK md more y N fx s o fun s'' => ih s'' K
    | some (j, want) => match (nth ops j).bind (·.dst) with
      | none => False
      | some d => match Nat.blt d N with
        | false => False
        | true => match s.get d with
          | .pure (.val (.bool b)) => match s with
            | ⟨e, bl, u⟩ => bsel b
              (match want with
                | true => opK md more y N fx ⟨(d, .pure (.val (.bool true))) :: e, bl, u⟩ o fun s'' => ih s'' K
                | false => putC ⟨(d, .pure (.val (.bool true))) :: e, bl, u⟩ o.dst .junk fun s'' => ih s'' K)
              (match want with
                | true => putC ⟨(d, .pure (.val (.bool false))) :: e, bl, u⟩ o.dst .junk fun s'' => ih s'' K
                | false => opK md more y N fx ⟨(d, .pure (.val (.bool false))) :: e, bl, u⟩ o fun s'' => ih s'' K)
          | _ => False

noncomputable def opsVC (md : Bool) (more : St → Oper → Kont → Prop) (P : Program) (y : Yl P) (N : Nat) (fx : List Nat) (ops : List Oper) (l : List Oper) : St → (St → Prop) → Prop :=
  List.rec (motive := fun _ => St → (St → Prop) → Prop) (fun s K => K s) (fun o _ ih s K => opsStep md more P y N fx ops o ih s K) l

theorem actsC_eq (l : List BAct) : ∀ (s : St) (C : St → Prop), actsC l s C = C (s.acts l) := by
  induction l with
  | nil => intro s C; rfl
  | cons act l ih =>
    intro s C
    show actC s act (fun s' => actsC l s' C) = _
    cases s
    cases act <;> exact ih _ C
theorem putC_eq (s : St) (dst : Option Tmp) (v : AV) (C : St → Prop) : putC s dst v C = C (s.putD dst v) := by
  cases dst <;> rfl

/-- Code run from where s fits ends where K holds. -/
def Wp (Γ : Ctx) (F : Fence) (n : Nat) (c : Code) (s : St) (K : Exit → St → Prop) : Prop :=
  ∀ a w, R Γ s a w → c.wpIn F n Γ.P (fun e a' w' => ∃ s', K e s' ∧ R Γ s' a' w') a w

def seqK (ih : St → (Exit → St → Prop) → Prop) (K : Exit → St → Prop) (e : Exit) (s : St) : Prop := match e with
  | .normal => ih s K
  | .exit i => K (.exit i) s
  | .goto l => K (.goto l) s
  | .ret => K .ret s
  | .panic c => K (.panic c) s
  | .outgrown => K .outgrown s
def blockK (id : Nat) (K : Exit → St → Prop) (e : Exit) (s : St) : Prop := match e with
  | .normal => K .normal s
  | .exit i => bif Nat.beq i id then K .normal s else K (.exit i) s
  | .goto l => K (.goto l) s
  | .ret => K .ret s
  | .panic c => K (.panic c) s
  | .outgrown => K .outgrown s
def condC (x : AV) (A B : Prop) : Prop := match x with
  | .pure (.val (.bool t)) => bsel t A B
  | _ => False

noncomputable def vcCode (more : St → Oper → Kont → Prop) (Γ : Ctx) (F : Fence) (n : Nat) (c : Code) : St → (Exit → St → Prop) → Prop :=
  Code.rec (motive := fun _ => St → (Exit → St → Prop) → Prop)
    (fun s K => K .normal s)
    (fun id ops d s K => match d with
      | false => opsVC false more Γ.P Γ.y Γ.N Γ.fx ops.toList ops.toList s (K .normal)
      | true => Wp Γ F n (.region id ops true) s K)
    (fun _ _ iha ihb s K => iha s (seqK ihb K))
    (fun c _ _ iha ihb s K => condC (s.geto c) (iha s K) (ihb s K))
    (fun id _ ih s K => ih s (blockK id K))
    (fun body _ s K => Wp Γ F n (.loop body) s K)
    (fun f ps as body _ _ s K => Wp Γ F n (.rangeFunc f ps as body) s K)
    (fun id s K => K (.exit id) s)
    (fun body _ s K => Wp Γ F n (.scope body) s K)
    (fun _ s K => K .normal s)
    (fun l s K => Wp Γ F n (.goto l) s K)
    (fun s K => K .ret s)
    (fun w s K => Wp Γ F n (.refuse w) s K) c

section
variable {Γ : Ctx} {F : Fence} {n : Nat} {s : St} {a : Act} {w : World} {β : BM}

theorem geto_AR (h : Rl Γ s a.tmps w β) (x : Operand) : AR w (Av Γ.X β) β (s.geto x) (a.eval x) := by
  cases x with
  | tmp t => exact h.slots t
  | const v =>
    show AR w _ β (constAV v) v
    unfold constAV
    split
    · rename_i cs
      refine .pure _ _ (.agg _ _ (by simp) fun j p hj => ?_)
      simp only [List.getElem?_map, Option.map_eq_some_iff, Array.getElem?_toList] at hj
      obtain ⟨v, hv, rfl⟩ := hj
      rw [Array.getD_eq_getD_getElem?, hv]
      exact .val _
    · exact .pure _ _ (.val _)
  | func f => exact .fn f [] #[] rfl (by simp)
  | global g => exact .junk _
theorem geto_keys (h : Rl Γ s a.tmps w β) (x : Operand) : ∀ k ∈ (s.geto x).keys, k ∈ s.used := by
  cases x with
  | tmp t => exact h.used1 t
  | const v => intro k hk; simp only [St.geto] at hk; unfold constAV at hk; split at hk <;> simp [AV.keys] at hk
  | func f => intro k hk; simp [St.geto, AV.keys, AV.keysL] at hk
  | global g => intro k hk; simp [St.geto, AV.keys] at hk

/-- An operation that yields a value by its run. -/
theorem wpIn_of_run (hF : FOK F) {o : Oper} (hnd : ∀ c, o.op ≠ .defer c) {v : Value} {w' : World} (hr : (execOp a.eval o).run Γ.P w = .ok (.value v) w') {next : Act → World → Prop} {Q : Exit → Act → World → Prop}
    (hk : next (a.put o.dst v) w') : o.wpIn F n Γ.P a w next Q := by
  refine ⟨fun f _ => hF.fn f, ?_⟩
  rw [Oper.semAt_eq _ _ _ hnd, hr]
  exact hk
theorem wpIn_of_skip (hF : FOK F) {o : Oper} (hnd : ∀ c, o.op ≠ .defer c) {w' : World} (hr : (execOp a.eval o).run Γ.P w = .ok .skip w') {next : Act → World → Prop} {Q : Exit → Act → World → Prop}
    (hk : next (a.put o.dst undef) w') : o.wpIn F n Γ.P a w next Q := by
  refine ⟨fun f _ => hF.fn f, ?_⟩
  rw [Oper.semAt_eq _ _ _ hnd, hr]
  exact hk

theorem putD_R {d : Option Tmp} {v : AV} {u : Value} {ds : List Deferred} (hd : a.defers = ds) (h : Rl Γ s a.tmps w β) (ho : dstOk Γ.N d = true) (hv : AR w (Av Γ.X β) β v u) (hk : ∀ k ∈ v.keys, k ∈ s.used) : R0 Γ ds (s.putD d v) (a.put d u) w := by
  cases d with
  | none => exact ⟨hd, β, h⟩
  | some d => exact ⟨hd, β, h.put (by simpa [dstOk, Nat.blt_eq] using ho) hv hk⟩

theorem Rl.ext {tm : Array Value} (h : Rl Γ s tm w β) {w' : World} (hk : Kp (fun _ => False) w w') : Rl Γ s tm w' β := by
  have had : Ad w (Av Γ.X β) w' (Av Γ.X β) := ⟨hk.size, fun b hb hA => ⟨hk.block b hb (fun h => h), hA⟩⟩
  exact
  { h with
    slots := fun t => (h.slots t).mono had fun _ _ => rfl
    blks := fun k => by
      have hb := h.blks k
      cases hs : s.blk k with
      | none =>
        rw [hs] at hb
        cases hβ : β k with
        | none => trivial
        | some bi => rw [hβ] at hb; exact hb.elim
      | some blk =>
        rw [hs] at hb
        cases hβ : β k with
        | none => rw [hβ] at hb; exact hb.elim
        | some bi =>
          rw [hβ] at hb
          exact BOK.mono had hb (fun _ _ => rfl) fun hv => hk.block _ (h.lt k bi hβ hv) (fun h => h)
    lt := fun k bi hb hv => Nat.lt_of_lt_of_le (h.lt k bi hb hv) hk.size
    Xlt := fun b hb => Nat.lt_of_lt_of_le (h.Xlt b hb) hk.size
    keep := h.keep.trans ⟨hk.os, hk.tape, hk.output, hk.size, fun b hb _ => hk.block b hb (fun h => h)⟩ }

theorem PR.scal_any {A A' : Nat → Prop} {w' : World} {p : PV} {v : Value} (h : PR w A p v) (hs : p.scal = true) : PR w' A' p v := by
  cases h with
  | val => exact .val _
  | slnil => cases hs
  | sl => cases hs
  | ptr => cases hs
  | agg => cases hs
  | fn => cases hs
  | tup cs vs hl hp =>
    refine .tup cs vs hl fun j p hj => ?_
    have hv : ∀ {l : List PV}, allVal l = true → ∀ q ∈ l, ∃ x, q = .val x := by
      intro l
      induction l with
      | nil => intro _ q hq; cases hq
      | cons c l ih =>
        intro h q hq
        cases c with
        | val x =>
          rcases List.mem_cons.1 hq with rfl | hq
          · exact ⟨x, rfl⟩
          · exact ih h q hq
        | sl => cases h
        | ptr => cases h
        | agg => cases h
        | tup => cases h
        | fn => cases h
    obtain ⟨x, rfl⟩ := hv hs p (List.mem_of_getElem? hj)
    rw [(hp j _ hj).val_inv]
    exact .val _

theorem call_run {o : Oper} {c : Call} (ho : o.op = .call c) {fo : Operand} (hc : c.callee = .value fo) {f : FuncId} {vs : Array Value} (hev : a.eval fo = .func (.func f) #[] vs) (hcall : ∀ (vs : Array Value) (w : World), (callFunc f vs).run Γ.P w = .ok (.enter f vs) w) :
    (execOp a.eval o).run Γ.P w = .ok (.enter f (c.args.map a.eval ++ vs)) w := by
  simp only [execOp, ho, resolve, hc, hev, Deferred.ofValue, Sem.run_bind, Sem.run_pure, Result.andThen_ok, invoke, Array.empty_append]
  exact hcall _ _

theorem args_AR (h : Rl Γ s a.tmps w β) {c : Call} {cs : List AV} {vs : Array Value} (hvs : ∀ (j : Nat) (p : AV), cs[j]? = some p → AR w (Av Γ.X β) β p (vs.getD j undef)) :
    ∀ (j : Nat) (x : AV), (c.args.toList.map s.geto ++ cs)[j]? = some x → AR w (Av Γ.X β) β x ((c.args.map a.eval ++ vs).getD j undef) := fun j x hj => by
  rw [Array.getD_eq_getD_getElem?]
  by_cases hlt : j < c.args.size
  · rw [List.getElem?_append_left (by simpa using hlt)] at hj
    simp only [List.getElem?_map, Option.map_eq_some_iff, Array.getElem?_toList] at hj
    obtain ⟨y, hy, rfl⟩ := hj
    rw [Array.getElem?_append_left (by simpa using hlt), Array.getElem?_map, hy]
    exact geto_AR h y
  · rw [List.getElem?_append_right (by simpa using hlt)] at hj
    rw [Array.getElem?_append_right (by simpa using hlt)]
    have := hvs _ x hj
    rw [Array.getD_eq_getD_getElem?] at this
    simpa using this

theorem call_sound (hF : FOK F) (h : Rl Γ s a.tmps w β) {o : Oper} {c : Call} (ho : o.op = .call c) {fo : Operand} (hc : c.callee = .value fo) {f : FuncId} {cs : List AV} (hf : fnOf (s.geto fo) = some (f, cs)) {K : Kont}
    {md : Bool} (hK : callVC md Γ.P f (c.args.toList.map s.geto ++ cs) s.blk Γ.fx K) {next : Act → World → Prop} {Q : Exit → Act → World → Prop}
    (hk : ∀ v acts u w' β', K v acts → Rl Γ (s.acts acts) a.tmps w' β' → AR w' (Av Γ.X β') β' v u → (∀ k ∈ v.keys, k ∈ (s.acts acts).used) → next (a.put o.dst u) w') : o.wpIn F n Γ.P a w next Q := by
  unfold callVC at hK
  split at hK
  · exact hK.elim
  rename_i ps hps
  obtain ⟨res, ⟨hcall, hspec⟩, hK⟩ := hK
  refine ⟨fun f _ => hF.fn f, ?_⟩
  rw [Oper.semAt_eq _ _ _ (by rw [ho]; intro c; simp)]
  obtain ⟨vs, hev, hvl, hvs⟩ := fnOf_spec (geto_AR h fo) hf
  rw [call_run ho hc hev hcall]
  have harg := args_AR h (c := c) hvs
  generalize hxs : c.args.toList.map s.geto ++ cs = xs at harg hps hK
  have hxl : (c.args.map a.eval ++ vs).size = xs.length := by rw [← hxs]; simp [hvl]
  generalize c.args.map a.eval ++ vs = us at harg hxl
  obtain ⟨hl, hpp⟩ := toPVL_some hps
  have hsize : us.size = ps.length := by rw [hl, hxl]
  refine ⟨fun hn => (by rw [hF.depth] at hn; cases hn), hF.calls _ _ _ _ _ _ ?_⟩
  split at hK
  · rename_i hsc
    -- a plain answer: nothing need be frozen
    have hdead : ∀ k ∈ AV.keysL xs, FzOK s.blk k := toPVL_keys _ hps
    let β' : BM := fun j => if j ∈ AV.keysL xs then none else β j
    have had : Ad w (Av Γ.X β) w (Av Γ.X β') := ⟨Nat.le_refl _, fun b _ hA => ⟨rfl, fun hA' => hA (by
      rcases hA' with hx | ⟨j, bj, hj, hv, hb⟩
      · exact .inl hx
      · refine .inr ⟨j, bj, ?_, hv, hb⟩
        by_cases e : j ∈ AV.keysL xs
        · simp [β', e] at hj
        · simpa [β', e] using hj)⟩⟩
    have hpr : ∀ (j : Nat) (p : PV), ps[j]? = some p → PR w (Av Γ.X β') p (us.getD j undef) := fun j p hj => by
      obtain ⟨x, hx, hxp⟩ := hpp j p hj
      refine AR.toPV had h.blks (harg j x hx) (fun k hkx bi hb hv => ?_) hxp
      have hmem : k ∈ AV.keysL xs := AV.mem_keysL.2 ⟨x, List.mem_of_getElem? hx, hkx⟩
      rintro (hX | ⟨j', bj, hj', hv', hbb⟩)
      · exact h.notX k bi hb hv hX
      · by_cases e : j' ∈ AV.keysL xs
        · simp [β', e] at hj'
        · have hj'' : β j' = some bj := by simpa [β', e] using hj'
          have := h.inj j' k bj bi hj'' hb hv' hv hbb
          subst this
          exact e hmem
    refine (hspec w (Av Γ.X β') _ hsize hpr (fun b hb => h.Avlt b ?_)).mono ?_
    · rcases hb with hx | ⟨j, bj, hj, hv, hbb⟩
      · exact .inl hx
      · refine .inr ⟨j, bj, ?_, hv, hbb⟩
        by_cases e : j ∈ AV.keysL xs
        · simp [β', e] at hj
        · simpa [β', e] using hj
    · rintro e w' ⟨v, rfl, hv, hkp⟩
      exact hk _ [] v w' β hK (h.ext hkp) (.pure _ _ (hv.scal_any hsc)) (by simp [AV.keys])
  · obtain ⟨hdj, hK⟩ := hK
    obtain ⟨β', f1, f2, f3, f4⟩ := fks h md (disj_spec hdj)
    have hpr := freezes_PRL h harg (fun k hk => hk) hps f3 f4
    refine (hspec w (Av Γ.X β') _ hsize hpr f1.Avlt).mono ?_
    rintro e w' ⟨v, rfl, hv, hkp⟩
    exact hk _ _ v w' β' hK (f1.ext hkp) (.pure _ _ hv) (by simp [AV.keys])

theorem callG_sound (hF : FOK F) (h : Rl Γ s a.tmps w β) {o : Oper} {c : Call} (ho : o.op = .call c) {fo : Operand} (hc : c.callee = .value fo) {f : FuncId} {cs : List AV} (hf : fnOf (s.geto fo) = some (f, cs)) {K : Kont}
    (hK : callG Γ.P f (c.args.toList.map s.geto ++ cs) s Γ.fx K) {next : Act → World → Prop} {Q : Exit → Act → World → Prop}
    (hk : ∀ v acts u w' β', K v acts → Rl Γ (s.acts acts) a.tmps w' β' → AR w' (Av Γ.X β') β' v u → (∀ k ∈ v.keys, k ∈ (s.acts acts).used) → next (a.put o.dst u) w') : o.wpIn F n Γ.P a w next Q := by
  obtain ⟨vs, hev, hvl, hvs⟩ := fnOf_spec (geto_AR h fo) hf
  obtain ⟨hcall, hcalls⟩ := callG_calls h (vs := c.args.map a.eval ++ vs) (by simp [hvl]) (args_AR h hvs) hK
  refine ⟨fun f _ => hF.fn f, ?_⟩
  rw [Oper.semAt_eq _ _ _ (by rw [ho]; intro c; simp)]
  rw [call_run ho hc hev hcall]
  refine ⟨fun hn => (by rw [hF.depth] at hn; cases hn), hF.calls _ _ _ _ _ _ (hcalls.mono ?_)⟩
  rintro e w' ⟨u, v, acts, β', rfl, hKv, hR, hv, hkv⟩
  exact hk v acts u w' β' hKv hR hv hkv
end
end Go.Avc
