/- Regions whose order of evaluation is open: run in the order of the text, with operations that may change places shown apart. Conditions: none. -/
import Derived.Test.YtmkkfgifeekgeaaVcT
import Derived.OrdersIn
namespace Go.Avc
open Go.RowKit

/-! ### What must come before what -/

def bnd : Ground → Bool
  | .textOnly _ => false
  | .gcOnly _ => false
  | _ => true
def binders (o : Oper) : List Nat := (o.after.toList.filter fun e => bnd e.ground).map (·.on)
def maskOf (acc : List Nat) (bs : List Nat) : Nat := bs.foldl (fun m b => m ||| 2 ^ b ||| (nth acc b).getD 0) 0
def ancGo : List Nat → List Oper → List Nat
  | acc, [] => acc
  | acc, o :: l => ancGo (acc ++ [maskOf acc (binders o)]) l
def ancs (ops : List Oper) : List Nat := ancGo [] ops
def anc (A : List Nat) (j i : Nat) : Bool := ((nth A j).getD 0).testBit i

inductive Anc (ops : List Oper) : Nat → Nat → Prop
  | one {j b : Nat} {o : Oper} (ho : ops[j]? = some o) (hb : b ∈ binders o) : Anc ops j b
  | step {j b i : Nat} {o : Oper} (ho : ops[j]? = some o) (hb : b ∈ binders o) (h : Anc ops b i) : Anc ops j i

theorem maskOf_spec {acc : List Nat} {i : Nat} : ∀ {bs : List Nat} {m : Nat}, (bs.foldl (fun m b => m ||| 2 ^ b ||| (nth acc b).getD 0) m).testBit i = true → m.testBit i = true ∨ ∃ b ∈ bs, i = b ∨ ((nth acc b).getD 0).testBit i = true
  | [], m, h => .inl h
  | b :: bs, m, h => by
    rcases maskOf_spec (bs := bs) h with h | ⟨c, hc, h⟩
    · simp only [Nat.testBit_or, Nat.testBit_two_pow, Bool.or_eq_true, decide_eq_true_eq] at h
      rcases h with (h | h) | h
      · exact .inl h
      · exact .inr ⟨b, List.mem_cons_self, .inl h.symm⟩
      · exact .inr ⟨b, List.mem_cons_self, .inr h⟩
    · exact .inr ⟨c, List.mem_cons_of_mem _ hc, h⟩

theorem ancGo_spec {ops : List Oper} : ∀ {l : List Oper} {pre : List Oper} {acc : List Nat}, ops = pre ++ l → acc.length = pre.length → (∀ b i, ((nth acc b).getD 0).testBit i = true → Anc ops b i) →
    ∀ b i, ((nth (ancGo acc l) b).getD 0).testBit i = true → Anc ops b i
  | [], pre, acc, _, _, h => h
  | o :: l, pre, acc, e, hl, h => by
    have ho : ops[pre.length]? = some o := by rw [e]; simp
    refine ancGo_spec (l := l) (pre := pre ++ [o]) (acc := acc ++ [maskOf acc (binders o)]) (by rw [e]; simp) (by simp [hl]) fun b i hb => ?_
    rw [nth_eq] at hb
    by_cases hlt : b < acc.length
    · rw [List.getElem?_append_left hlt, ← nth_eq] at hb
      exact h b i hb
    · by_cases heq : b = acc.length
      · subst heq
        rw [List.getElem?_append_right (Nat.le_refl _)] at hb
        simp only [Nat.sub_self, List.getElem?_cons_zero, Option.getD_some] at hb
        rw [hl]
        rcases maskOf_spec hb with hb | ⟨c, hc, hb⟩
        · simp at hb
        · rcases hb with rfl | hb
          · exact .one ho hc
          · exact .step ho hc (h c i hb)
      · rw [List.getElem?_eq_none (by simp; omega)] at hb
        simp at hb

theorem anc_spec {ops : List Oper} {j i : Nat} (h : anc (ancs ops) j i = true) : Anc ops j i :=
  ancGo_spec (pre := []) rfl rfl (fun b i hb => by simp [nth] at hb) j i h

def backB (j : Nat) : List Nat → Bool
  | [] => true
  | b :: l => bif Nat.blt b j then backB j l else false
def rowB (ops : Array Oper) (A : List Nat) (o : Oper) (j : Nat) : Nat → List Oper → Bool
  | _, [] => true
  | i, x :: l => bif Nat.blt i j then (bif (anc A j i || x.apart ops o) then rowB ops A o j (i + 1) l else false) else true
def allB (ops : Array Oper) (A : List Nat) (all : List Oper) : Nat → List Oper → Bool
  | _, [] => true
  | j, o :: l => bif (backB j (binders o) && rowB ops A o j 0 all) then allB ops A all (j + 1) l else false
/-- Operations that may change places do not look at each other's slots; what an operation waits for stands before it in the text. -/
def drawOK (ops : Array Oper) : Bool := allB ops (ancs ops.toList) ops.toList 0 ops.toList

theorem backB_spec {j : Nat} : ∀ {l : List Nat}, backB j l = true → ∀ b ∈ l, b < j
  | [], _, b, hb => by cases hb
  | c :: l, h, b, hb => by
    simp only [backB] at h
    cases hc : Nat.blt c j with
    | false => rw [hc] at h; cases h
    | true =>
      rw [hc] at h
      rcases List.mem_cons.1 hb with rfl | hb
      · simpa [Nat.blt_eq] using hc
      · exact backB_spec h b hb
theorem rowB_spec {ops : Array Oper} {A : List Nat} {o : Oper} {j : Nat} : ∀ {l : List Oper} {i : Nat}, rowB ops A o j i l = true → ∀ (y : Nat) (x : Oper), l[y]? = some x → i + y < j → anc A j (i + y) = true ∨ x.apart ops o = true
  | [], i, _, y, x, hy, _ => by simp at hy
  | z :: l, i, h, y, x, hy, hlt => by
    simp only [rowB] at h
    have hij : Nat.blt i j = true := by simp [Nat.blt_eq]; omega
    rw [hij] at h
    cases hc : (anc A j i || z.apart ops o) with
    | false => rw [hc] at h; cases h
    | true =>
      rw [hc] at h
      cases y with
      | zero =>
        simp only [List.getElem?_cons_zero, Option.some.injEq] at hy
        subst hy
        simpa using hc
      | succ y =>
        have := rowB_spec (l := l) (i := i + 1) h y x (by simpa using hy) (by omega)
        rw [show i + 1 + y = i + (y + 1) by omega] at this
        exact this
theorem allB_spec {ops : Array Oper} {A : List Nat} {all : List Oper} : ∀ {l : List Oper} {j : Nat}, allB ops A all j l = true → ∀ (y : Nat) (o : Oper), l[y]? = some o →
    (∀ b ∈ binders o, b < j + y) ∧ ∀ (i : Nat) (x : Oper), all[i]? = some x → i < j + y → anc A (j + y) i = true ∨ x.apart ops o = true
  | [], j, _, y, o, hy => by simp at hy
  | z :: l, j, h, y, o, hy => by
    simp only [allB] at h
    cases hc : (backB j (binders z) && rowB ops A z j 0 all) with
    | false => rw [hc] at h; cases h
    | true =>
      rw [hc] at h
      simp only [Bool.and_eq_true] at hc
      cases y with
      | zero =>
        simp only [List.getElem?_cons_zero, Option.some.injEq] at hy
        subst hy
        refine ⟨fun b hb => backB_spec hc.1 b hb, fun i x hx hlt => ?_⟩
        have := rowB_spec hc.2 i x hx (by omega)
        simpa using this
      | succ y =>
        have := allB_spec (l := l) (j := j + 1) h y o (by simpa using hy)
        rw [show j + 1 + y = j + (y + 1) by omega] at this
        exact this
theorem drawOK_spec {ops : Array Oper} (h : drawOK ops = true) {j : Nat} {o : Oper} (ho : ops.toList[j]? = some o) :
    (∀ b ∈ binders o, b < j) ∧ ∀ (i : Nat) (x : Oper), ops.toList[i]? = some x → i < j → anc (ancs ops.toList) j i = true ∨ x.apart ops o = true := by
  have := allB_spec h j o ho
  rw [Nat.zero_add] at this
  exact this

theorem binds_any (e : Edge) : Region.binds .any e = bnd e.ground := by
  unfold Region.binds bnd
  cases e.ground <;> rfl

/-! ### Conditions -/

def keysOf (get : Operand → AV) : List Operand → List Nat
  | [] => []
  | x :: l => (get x).keys ++ keysOf get l
def actKeys : List BAct → Option (List Nat)
  | [] => some []
  | .set k _ :: l => match actKeys l with
    | some r => some (k :: r)
    | none => none
  | .new k _ :: l => match actKeys l with
    | some r => some (k :: r)
    | none => none
  | .kill k :: l => match actKeys l with
    | some r => some (k :: r)
    | none => none
  | .frz _ :: _ => none
structure Rc where
  i : Nat
  ks : List Nat
  wk : List Nat
def nilB : List Nat → Bool
  | [] => true
  | _ => false
def pairInd (A : List Nat) (j : Nat) (ks wk : List Nat) (r : Rc) : Bool := bif (nilB wk && nilB r.wk) then true else bif anc A j r.i then true else (bif disj wk r.ks then disj r.wk ks else false)
def indAll (A : List Nat) (j : Nat) (ks wk : List Nat) : List Rc → Bool
  | [] => true
  | r :: l => bif pairInd A j ks wk r then indAll A j ks wk l else false
def forceL : List Nat → (List Nat → Prop) → Prop
  | [], C => C []
  | k :: l, C => forceL l fun l' => C (k :: l')
theorem forceL_eq : ∀ (l : List Nat) (C : List Nat → Prop), forceL l C = C l
  | [], _ => rfl
  | _ :: l, C => by simp only [forceL]; rw [forceL_eq l]
def dstL : Option Tmp → List Nat
  | none => []
  | some d => [d]

def dNext (A : List Nat) (i : Nat) (recs : List Rc) (s : St) (o : Oper) (v : AV) (acts : List BAct) (ih : Nat → List Rc → St → (St → Prop) → Prop) (K : St → Prop) : Prop :=
  match actKeys acts with
  | none => False
  | some wk => forceL wk fun wk => forceL (wk ++ dstL o.dst ++ keysOf s.geto o.op.operands.toList) fun ks => match indAll A i ks wk recs with
    | true => actsC acts s fun s' => putC s' o.dst v fun s'' => ih (i + 1) (⟨i, ks, wk⟩ :: recs) s'' K
    | false => False

def boolOf : AV → Option Bool
  | .pure (.val (.bool b)) => some b
  | _ => none
theorem boolOf_spec {v : AV} {b : Bool} (h : boolOf v = some b) : v = .pure (.val (.bool b)) := by
  unfold boolOf at h
  split at h
  · cases h; rfl
  · cases h
def dStep (more : St → Oper → Kont → Prop) (P : Program) (N : Nat) (fx : List Nat) (ops : List Oper) (A : List Nat) (o : Oper) (ih : Nat → List Rc → St → (St → Prop) → Prop) (i : Nat) (recs : List Rc) (s : St) (K : St → Prop) : Prop :=
  match dstOk N o.dst with
  | false => False
  | true => match o.guard with
    | none => opVC true more P fx s o fun v acts => dNext A i recs s o v acts ih K
    | some (j, want) => match (nth ops j).bind (·.dst) with
      | none => False
      | some d => match Nat.blt d N with
        | false => False
        | true => match boolOf (s.get d) with
          | some b => match s with
            | ⟨e, bl, u⟩ => bsel b
              (match want with
                | true => opVC true more P fx ⟨(d, .pure (.val (.bool true))) :: e, bl, u⟩ o fun v acts => dNext A i recs ⟨(d, .pure (.val (.bool true))) :: e, bl, u⟩ o v acts ih K
                | false => putC ⟨(d, .pure (.val (.bool true))) :: e, bl, u⟩ o.dst .junk fun s'' => ih (i + 1) recs s'' K)
              (match want with
                | true => putC ⟨(d, .pure (.val (.bool false))) :: e, bl, u⟩ o.dst .junk fun s'' => ih (i + 1) recs s'' K
                | false => opVC true more P fx ⟨(d, .pure (.val (.bool false))) :: e, bl, u⟩ o fun v acts => dNext A i recs ⟨(d, .pure (.val (.bool false))) :: e, bl, u⟩ o v acts ih K)
          | none => False

noncomputable def opsD (more : St → Oper → Kont → Prop) (P : Program) (N : Nat) (fx : List Nat) (ops : List Oper) (A : List Nat) (l : List Oper) : Nat → List Rc → St → (St → Prop) → Prop :=
  List.rec (motive := fun _ => Nat → List Rc → St → (St → Prop) → Prop) (fun _ _ s K => K s) (fun o _ ih i recs s K => dStep more P N fx ops A o ih i recs s K) l

/-! ### States alike -/

structure SEq (s t : St) : Prop where
  get : ∀ i, s.get i = t.get i
  blk : ∀ k, s.blk k = t.blk k
  used : ∀ k, k ∈ s.used ↔ k ∈ t.used

theorem SEq.refl (s : St) : SEq s s := ⟨fun _ => rfl, fun _ => rfl, fun _ => Iff.rfl⟩
theorem SEq.symm {s t : St} (h : SEq s t) : SEq t s := ⟨fun i => (h.get i).symm, fun k => (h.blk k).symm, fun k => (h.used k).symm⟩
theorem SEq.trans {s t u : St} (h : SEq s t) (k : SEq t u) : SEq s u := ⟨fun i => (h.get i).trans (k.get i), fun i => (h.blk i).trans (k.blk i), fun i => (h.used i).trans (k.used i)⟩
theorem SEq.geto {s t : St} (h : SEq s t) (x : Operand) : s.geto x = t.geto x := by
  cases x <;> simp only [St.geto, h.get]

theorem Rl.seq {Γ : Ctx} {s s' : St} {tm : Array Value} {w : World} {β : BM} (h : Rl Γ s tm w β) (e : SEq s' s) : Rl Γ s' tm w β :=
  { h with
    slots := fun t => by rw [e.get]; exact h.slots t
    blks := fun k => by rw [e.blk]; exact h.blks k
    used1 := fun t k hk => by rw [e.get] at hk; exact (e.used k).2 (h.used1 t k hk)
    used2 := fun k b hb => by rw [e.blk] at hb; exact ⟨(e.used k).2 (h.used2 k b hb).1, fun x hx => (e.used x).2 ((h.used2 k b hb).2 x hx)⟩ }
theorem R.seq {Γ : Ctx} {s s' : St} {a : Act} {w : World} (h : R Γ s a w) (e : SEq s' s) : R Γ s' a w := by
  obtain ⟨X, β, h, g⟩ := h
  exact ⟨X, β, h.seq e, g.sub, g.old, fun hon i t hi => g.gh hon i t (by rw [← e.get]; exact hi), g.lone, g.nd, g.marks⟩

theorem get_act (s : St) {b : BAct} {wk : List Nat} (h : actKeys [b] = some wk) (i : Nat) : (s.act b).get i = s.get i := by
  cases b <;> first | rfl | cases h

def ActsOK (acts : List BAct) (wk : List Nat) (s : St) : Prop := (∀ i, (s.acts acts).get i = s.get i) ∧ (∀ k, k ∉ wk → (s.acts acts).blk k = s.blk k) ∧
    (∀ t : St, ∀ k ∈ wk, (s.acts acts).blk k = (t.acts acts).blk k) ∧ (∃ ns : List Nat, (∀ k ∈ ns, k ∈ wk) ∧ ∀ t : St, ∀ k, k ∈ (t.acts acts).used ↔ k ∈ ns ∨ k ∈ t.used)

/-- Turning blocks, none frozen: the slots stay, what is not turned stays, and what is turned is turned alike everywhere. -/
theorem acts_spec : ∀ {acts : List BAct} {wk : List Nat}, actKeys acts = some wk → ∀ s : St, ActsOK acts wk s
  | [], wk, h, s => by
    simp only [actKeys, Option.some.injEq] at h
    subst h
    exact ⟨fun _ => rfl, fun _ _ => rfl, fun _ k hk => (by cases hk), [], fun k hk => (by cases hk), fun t k => (by simp [St.acts])⟩
  | b :: l, wk, h, s => by
    have key : ∀ (k : Nat) (ob : Option Blk) (nw : List Nat), (∀ t : St, ∀ i, (t.act b).get i = t.get i) → (∀ t : St, ∀ j, (t.act b).blk j = if k = j then ob else t.blk j) → (∀ t : St, ∀ j, j ∈ (t.act b).used ↔ j ∈ nw ∨ j ∈ t.used) → (∀ j ∈ nw, j = k) →
        (match actKeys l with | some r => some (k :: r) | none => none) = some wk → ActsOK (b :: l) wk s := fun k ob nw h1 h2 h3 h4 h5 => by
      cases hl : actKeys l with
      | none => rw [hl] at h5; cases h5
      | some r =>
        rw [hl] at h5
        simp only [Option.some.injEq] at h5
        subst h5
        have ih := fun s => acts_spec hl s
        obtain ⟨ns, hns, hu⟩ := (ih s).2.2.2
        have e : ∀ t : St, t.acts (b :: l) = (t.act b).acts l := fun _ => rfl
        refine ⟨fun i => ?_, fun j hj => ?_, fun t j hj => ?_, nw ++ ns, fun j hj => ?_, fun t j => ?_⟩
        · rw [e, (ih _).1, h1]
        · simp only [List.mem_cons, not_or] at hj
          rw [e, (ih _).2.1 j hj.2, h2, if_neg (Ne.symm hj.1)]
        · rw [e, e]
          by_cases hr : j ∈ r
          · exact (ih _).2.2.1 _ j hr
          · rw [(ih _).2.1 j hr, (ih _).2.1 j hr, h2, h2]
            rcases List.mem_cons.1 hj with rfl | hj
            · simp
            · exact absurd hj hr
        · rcases List.mem_append.1 hj with hj | hj
          · exact List.mem_cons.2 (.inl (h4 j hj))
          · exact List.mem_cons_of_mem _ (hns j hj)
        · rw [e, hu, h3, List.mem_append]
          constructor
          · rintro (h | h | h)
            · exact .inl (.inr h)
            · exact .inl (.inl h)
            · exact .inr h
          · rintro ((h | h) | h)
            · exact .inr (.inl h)
            · exact .inl h
            · exact .inr (.inr h)
    cases b with
    | set k x => exact key k (some x) [] (fun _ _ => rfl) (fun t j => St.blk_set t k x j) (fun t j => by simp [St.act, St.set]) (fun j hj => (by cases hj)) h
    | new k x => exact key k (some x) [k] (fun _ _ => rfl) (fun t j => St.blk_new t k x j) (fun t j => by simp [St.act, St.new]) (fun j hj => by simpa using hj) h
    | kill k => exact key k none [] (fun _ _ => rfl) (fun t j => St.blk_kill t k j) (fun t j => by simp [St.act, St.kill]) (fun j hj => (by cases hj)) h
    | frz k => cases h

/-! ### Steps -/

structure Stp where
  i : Nat
  o : Oper
  dec : Option (AV × List BAct)
  ks : List Nat
  wk : List Nat

def Stp.next (x : Stp) (s : St) : St := match x.dec with
  | none => s.putD x.o.dst .junk
  | some (v, acts) => (s.acts acts).putD x.o.dst v

structure StpOK (more : St → Oper → Kont → Prop) (P : Program) (N : Nat) (fx : List Nat) (ops : Array Oper) (s : St) (x : Stp) : Prop where
  dst : dstOk N x.o.dst = true
  guard : (x.o.guard = none ∧ x.dec.isSome = true) ∨ ∃ j want d b, x.o.guard = some (j, want) ∧ (nth ops.toList j).bind (·.dst) = some d ∧ Nat.blt d N = true ∧ s.get d = .pure (.val (.bool b)) ∧ x.dec.isSome = (b == want)
  run : ∀ v acts, x.dec = some (v, acts) → opVC true more P fx s x.o (fun v' a' => v' = v ∧ a' = acts) ∧ actKeys acts = some x.wk ∧ (∀ y ∈ x.o.op.operands, ∀ k ∈ (s.geto y).keys, k ∈ x.ks) ∧ (∀ k ∈ x.wk, k ∈ x.ks) ∧ (∀ d, x.o.dst = some d → d ∈ x.ks)
  skip : x.dec = none → x.wk = []

/-- Two steps that may change places. -/
structure SInd (ops : Array Oper) (x y : Stp) : Prop where
  apart : x.o.apart ops y.o = true
  k1 : ∀ k ∈ x.wk, k ∉ y.ks
  k2 : ∀ k ∈ y.wk, k ∉ x.ks

section
variable {more : St → Oper → Kont → Prop} {P : Program} {N : Nat} {fx : List Nat} {ops : Array Oper}

theorem putD_get (s : St) (d : Option Tmp) (v : AV) (i : Nat) : (s.putD d v).get i = if d = some i then v else s.get i := by
  cases d with
  | none => simp [St.putD]
  | some d => simp [St.putD, St.get_put]
theorem putD_blk (s : St) (d : Option Tmp) (v : AV) (k : Nat) : (s.putD d v).blk k = s.blk k := by cases d <;> rfl
theorem putD_used (s : St) (d : Option Tmp) (v : AV) : (s.putD d v).used = s.used := by cases d <;> rfl

/-- What a step does: to the slots, the blocks, the names. -/
theorem next_spec (x : Stp) (hk : ∀ v acts, x.dec = some (v, acts) → actKeys acts = some x.wk) (hs : x.dec = none → x.wk = []) : ∃ (v : AV) (f : Nat → Option Blk) (ns : List Nat), (∀ k ∈ ns, k ∈ x.wk) ∧ ∀ s : St,
    (∀ i, (x.next s).get i = if x.o.dst = some i then v else s.get i) ∧ (∀ k, (x.next s).blk k = if k ∈ x.wk then f k else s.blk k) ∧ ∀ k, k ∈ (x.next s).used ↔ k ∈ ns ∨ k ∈ s.used := by
  cases hd : x.dec with
  | none =>
    refine ⟨.junk, fun _ => none, [], fun k hk => (by cases hk), fun s => ⟨fun i => ?_, fun k => ?_, fun k => ?_⟩⟩
    · simp only [Stp.next, hd, putD_get]
    · simp only [Stp.next, hd, putD_blk, hs hd]; simp
    · simp only [Stp.next, hd, putD_used]; simp
  | some p =>
    obtain ⟨v, acts⟩ := p
    have ha := fun s => acts_spec (hk v acts hd) s
    let s0 : St := ⟨[], [], []⟩
    obtain ⟨ns, hns, hu⟩ := (ha s0).2.2.2
    refine ⟨v, (s0.acts acts).blk, ns, hns, fun s => ⟨fun i => ?_, fun k => ?_, fun k => ?_⟩⟩
    · simp only [Stp.next, hd, putD_get, (ha s).1]
    · simp only [Stp.next, hd, putD_blk]
      split
      · rename_i hm; exact (ha s).2.2.1 s0 k hm
      · rename_i hm; exact (ha s).2.1 k hm
    · simp only [Stp.next, hd, putD_used]
      exact hu s k

theorem StpOK.keys {s : St} {x : Stp} (h : StpOK more P N fx ops s x) : ∀ v acts, x.dec = some (v, acts) → actKeys acts = some x.wk := fun v acts e => (h.run v acts e).2.1

theorem SEq.next {s t : St} (h : SEq s t) {x : Stp} (hk : ∀ v acts, x.dec = some (v, acts) → actKeys acts = some x.wk) (hs : x.dec = none → x.wk = []) : SEq (x.next s) (x.next t) := by
  obtain ⟨v, f, ns, _, hn⟩ := next_spec x hk hs
  refine ⟨fun i => ?_, fun k => ?_, fun k => ?_⟩
  · rw [(hn s).1, (hn t).1, h.get]
  · rw [(hn s).2.1, (hn t).2.1, h.blk]
  · rw [(hn s).2.2, (hn t).2.2, h.used]

theorem freshIn_iff {d : Nat} : ∀ {l : List Nat}, freshIn d l = true ↔ d ∉ l := by
  intro l
  constructor
  · exact freshIn_spec
  · intro h
    cases hf : freshIn d l with
    | true => rfl
    | false => exact absurd (freshIn_not hf) h

theorem StpOK.move {s t : St} {x : Stp} (hm : DetM more) (h : StpOK more P N fx ops s x) (hget : ∀ d, d ∈ x.o.looksAt ops → t.get d = s.get d) (hblk : ∀ k ∈ x.ks, t.blk k = s.blk k) (hu : ∀ d, x.o.dst = some d → d ∉ s.used → d ∈ x.ks → d ∉ t.used) : StpOK more P N fx ops t x := by
  have hgeto : ∀ y ∈ x.o.op.operands, t.geto y = s.geto y := fun y hy => by
    cases y with
    | tmp d => exact hget d (List.mem_append_left _ (List.mem_filterMap.2 ⟨.tmp d, by simpa using hy, rfl⟩))
    | _ => rfl
  refine ⟨h.dst, ?_, fun v acts e => ?_, h.skip⟩
  · rcases h.guard with h1 | ⟨j, want, d, b, h1, h2, h3, h4, h5⟩
    · exact .inl h1
    · refine .inr ⟨j, want, d, b, h1, h2, h3, ?_, h5⟩
      rw [hget d ?_]
      · exact h4
      · refine List.mem_append_right _ ?_
        rw [h1]
        have h2' : (ops[j]?).bind (·.dst) = some d := by rw [nth_eq] at h2; simpa using h2
        simp [h2']
  · obtain ⟨h1, h2, h3, h4, h5⟩ := h.run v acts e
    have ha : Agr s t x.o := ⟨hgeto, fun y hy k hk => hblk k (h3 y hy k hk), fun d hd hf => freshIn_iff.2 (hu d hd (freshIn_iff.1 hf) (h5 d hd))⟩
    obtain ⟨v', acts', ⟨rfl, rfl⟩, h6⟩ := opVC_det (P := P) (fx := fx) hm ha _ h1
    exact ⟨h6, h2, fun y hy k hk => h3 y hy k (by rw [← hgeto y hy]; exact hk), h4, h5⟩

theorem StpOK.congr {s t : St} {x : Stp} (hm : DetM more) (h : StpOK more P N fx ops s x) (e : SEq s t) : StpOK more P N fx ops t x :=
  h.move hm (fun d _ => (e.get d).symm) (fun k _ => (e.blk k).symm) fun d _ hd _ hm => hd ((e.used d).2 hm)

theorem StpOK.swap {s : St} {x y : Stp} (hm : DetM more) (hx : StpOK more P N fx ops s x) (hy : StpOK more P N fx ops (x.next s) y) (hi : SInd ops x y) :
    StpOK more P N fx ops s y ∧ StpOK more P N fx ops (y.next s) x ∧ SEq (y.next (x.next s)) (x.next (y.next s)) := by
  obtain ⟨a1, a2, a3⟩ := Oper.apart_spec hi.apart
  obtain ⟨vx, fX, nx, hnx, hnX⟩ := next_spec x hx.keys hx.skip
  obtain ⟨vy, fY, ny, hny, hnY⟩ := next_spec y hy.keys hy.skip
  have wx : ∀ k ∈ x.wk, k ∈ x.ks := fun k hk => by
    cases hd : x.dec with
    | none => rw [hx.skip hd] at hk; cases hk
    | some p => exact (hx.run p.1 p.2 (by rw [hd])).2.2.2.1 k hk
  have wy : ∀ k ∈ y.wk, k ∈ y.ks := fun k hk => by
    cases hd : y.dec with
    | none => rw [hy.skip hd] at hk; cases hk
    | some p => exact (hy.run p.1 p.2 (by rw [hd])).2.2.2.1 k hk
  refine ⟨hy.move hm (fun d hd => ?_) (fun k hk => ?_) (fun d hd hn _ => ?_), hx.move hm (fun d hd => ?_) (fun k hk => ?_) (fun d hd hn hdk => ?_), ⟨fun i => ?_, fun k => ?_, fun k => ?_⟩⟩
  · rw [(hnX s).1, if_neg (fun e => a1 d e hd)]
  · rw [(hnX s).2.1, if_neg (fun hk' => hi.k1 k hk' hk)]
  · intro hu
    exact hn ((hnX s).2.2 d |>.2 (.inr hu))
  · rw [(hnY s).1, if_neg (fun e => a3 d e hd)]
  · rw [(hnY s).2.1, if_neg (fun hk' => hi.k2 k hk' hk)]
  · rw [(hnY s).2.2 d]
    rintro (h | h)
    · exact hi.k2 d (hny d h) hdk
    · exact hn h
  · rw [(hnY _).1, (hnX s).1, (hnX _).1, (hnY s).1]
    by_cases e1 : y.o.dst = some i
    · by_cases e2 : x.o.dst = some i
      · exact absurd e1 (a2 i e2)
      · simp [e1, e2]
    · simp [e1]
  · rw [(hnY _).2.1, (hnX s).2.1, (hnX _).2.1, (hnY s).2.1]
    by_cases e1 : k ∈ y.wk
    · by_cases e2 : k ∈ x.wk
      · exact absurd (wy k e1) (hi.k1 k e2)
      · simp [e1, e2]
    · simp [e1]
  · rw [(hnY _).2.2, (hnX s).2.2, (hnX _).2.2, (hnY s).2.2]
    constructor
    · rintro (h | h | h)
      · exact .inr (.inl h)
      · exact .inl h
      · exact .inr (.inr h)
    · rintro (h | h | h)
      · exact .inr (.inl h)
      · exact .inl h
      · exact .inr (.inr h)

def TrOK (more : St → Oper → Kont → Prop) (P : Program) (N : Nat) (fx : List Nat) (ops : Array Oper) : St → List Stp → Prop
  | _, [] => True
  | s, x :: l => StpOK more P N fx ops s x ∧ TrOK more P N fx ops (x.next s) l
def fin (s : St) : List Stp → St
  | [] => s
  | x :: l => fin (x.next s) l

theorem TrOK.congr (hm : DetM more) : ∀ {l : List Stp} {s t : St}, TrOK more P N fx ops s l → SEq s t → TrOK more P N fx ops t l ∧ SEq (fin s l) (fin t l)
  | [], s, t, _, e => ⟨trivial, e⟩
  | x :: l, s, t, h, e => by
    obtain ⟨h1, h2⟩ := h
    obtain ⟨g1, g2⟩ := TrOK.congr hm h2 (e.next h1.keys h1.skip)
    exact ⟨⟨h1.congr hm e, g1⟩, g2⟩

/-- A step is taken ahead of all those with which it may change places. -/
theorem TrOK.front (hm : DetM more) : ∀ {l1 : List Stp} {y : Stp} {l2 : List Stp} {s : St}, TrOK more P N fx ops s (l1 ++ y :: l2) → (∀ x ∈ l1, SInd ops x y) →
    TrOK more P N fx ops s (y :: (l1 ++ l2)) ∧ SEq (fin s (l1 ++ y :: l2)) (fin s (y :: (l1 ++ l2)))
  | [], y, l2, s, h, _ => ⟨h, SEq.refl _⟩
  | x :: l1, y, l2, s, h, hi => by
    obtain ⟨h1, h2⟩ := h
    obtain ⟨⟨g1, g2⟩, g3⟩ := TrOK.front hm h2 fun z hz => hi z (List.mem_cons_of_mem _ hz)
    obtain ⟨k1, k2, k3⟩ := h1.swap hm g1 (hi x List.mem_cons_self)
    obtain ⟨m1, m2⟩ := g2.congr hm k3
    exact ⟨⟨k1, k2, m1⟩, g3.trans m2⟩
end
end Go.Avc
