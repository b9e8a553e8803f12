/- Abstract values for Go values and memory: what a slot holds (AV, PV), what a local block holds (Blk), when a concrete value and world fit them (PR, AR, Rl). Conditions: none; definitions and their monotonicity. -/
import Derived.WalkKit
import Derived.WalkSpells
import Derived.Fence
import Derived.CallsIn
import Derived.TacticsIn
import Derived.RangeFuncIn
import Derived.RangeFuncRecord
import Derived.RangeFuncSeq
import Derived.RangeFuncLeaves
namespace Go.Avc
open Go.RowKit

inductive PV where
  | val (v : Value)
  | sl (sz : Nat) (rows : List (List PV))
  | ptr (cs : List PV)
  | agg (cs : List PV)
  | tup (cs : List PV)
  | fn (f : FuncId) (cs : List PV)

inductive AV where
  | junk
  | pure (p : PV)
  | loc (k i j : Nat)
  | lsl (k i n : Nat)
  | agg (cs : List AV)
  | fn (f : FuncId) (cs : List AV)
  | tup (cs : List AV)
  | gh (i : Nat) (t : Bool)

abbrev PV.int (n : Int) : PV := .val (.int .i64 n)
abbrev PV.bool (b : Bool) : PV := .val (.bool b)
abbrev AV.int (n : Int) : AV := .pure (.val (.int .i64 n))
abbrev AV.bool (b : Bool) : AV := .pure (.val (.bool b))

mutual
def AV.keys : AV → List Nat
  | .loc k _ _ => [k]
  | .lsl k _ _ => [k]
  | .agg cs => AV.keysL cs
  | .fn _ cs => AV.keysL cs
  | .tup cs => AV.keysL cs
  | _ => []
def AV.keysL : List AV → List Nat
  | [] => []
  | a :: l => a.keys ++ AV.keysL l
end

theorem AV.mem_keysL {l : List AV} {k : Nat} : k ∈ AV.keysL l ↔ ∃ a ∈ l, k ∈ a.keys := by
  induction l with
  | nil => simp [AV.keysL]
  | cons a l ih => simp [AV.keysL, ih]

inductive Blk where
  | box (cells : List AV)
  | row (sz : Nat) (rows : List (List PV))

def Blk.keys : Blk → List Nat
  | .box cs => AV.keysL cs
  | .row _ _ => []

def lk {α : Type} : List (Nat × α) → Nat → Option α
  | [], _ => none
  | (d, v) :: l, t => bif Nat.beq d t then some v else lk l t

structure St where
  env : List (Nat × AV)
  blks : List (Nat × Option Blk)
  used : List Nat

def St.get (s : St) (t : Nat) : AV := (lk s.env t).getD .junk
def St.blk (s : St) (k : Nat) : Option Blk := (lk s.blks k).join
def St.put (s : St) (d : Nat) (v : AV) : St := { s with env := (d, v) :: s.env }
def St.set (s : St) (k : Nat) (b : Blk) : St := { s with blks := (k, some b) :: s.blks }
def St.new (s : St) (k : Nat) (b : Blk) : St := { s with blks := (k, some b) :: s.blks, used := k :: s.used }
def St.kill (s : St) (k : Nat) : St := { s with blks := (k, none) :: s.blks }

@[simp] theorem beq_eq_decide (a b : Nat) : Nat.beq a b = decide (a = b) := by
  by_cases h : a = b
  · subst h; simp
  · rw [decide_eq_false h]
    exact Bool.eq_false_iff.2 fun h' => h (Nat.eq_of_beq_eq_true h')
theorem lk_cons {α : Type} (d : Nat) (v : α) (l : List (Nat × α)) (t : Nat) : lk ((d, v) :: l) t = if d = t then some v else lk l t := by
  simp only [lk, beq_eq_decide]
  by_cases h : d = t <;> simp [h]
theorem St.get_put (s : St) (d : Nat) (v : AV) (t : Nat) : (s.put d v).get t = if d = t then v else s.get t := by
  simp only [St.get, St.put, lk_cons]
  by_cases h : d = t <;> simp [h]
theorem St.blk_put (s : St) (d : Nat) (v : AV) (k : Nat) : (s.put d v).blk k = s.blk k := rfl
theorem St.blk_set (s : St) (k : Nat) (b : Blk) (k' : Nat) : (s.set k b).blk k' = if k = k' then some b else s.blk k' := by
  simp only [St.blk, St.set, lk_cons]
  by_cases h : k = k' <;> simp [h]
theorem St.blk_new (s : St) (k : Nat) (b : Blk) (k' : Nat) : (s.new k b).blk k' = if k = k' then some b else s.blk k' := by
  simp only [St.blk, St.new, lk_cons]
  by_cases h : k = k' <;> simp [h]
theorem St.blk_kill (s : St) (k : Nat) (k' : Nat) : (s.kill k).blk k' = if k = k' then none else s.blk k' := by
  simp only [St.blk, St.kill, lk_cons]
  by_cases h : k = k' <;> simp [h]
@[simp] theorem St.get_set (s : St) (k : Nat) (b : Blk) (t : Nat) : (s.set k b).get t = s.get t := rfl
@[simp] theorem St.get_new (s : St) (k : Nat) (b : Blk) (t : Nat) : (s.new k b).get t = s.get t := rfl
@[simp] theorem St.get_kill (s : St) (k : Nat) (t : Nat) : (s.kill k).get t = s.get t := rfl

/-- Where a local block lies: its number, the cells of an element, the cells in all; whether there is no block behind it at all. -/
structure BI where
  b : Nat
  sz : Nat
  tot : Nat
  len : Nat
  virt : Bool

abbrev BM := Nat → Option BI

/-- The blocks that must not be read as unchanging: those of X and the live local ones. -/
def Av (X : Nat → Prop) (β : BM) (b : Nat) : Prop := X b ∨ ∃ k bi, β k = some bi ∧ bi.virt = false ∧ bi.b = b

inductive PR (w : World) (A : Nat → Prop) : PV → Value → Prop
  | val (v : Value) : PR w A (.val v) v
  | slnil (sz : Nat) : PR w A (.sl sz []) (.slice none 0 0)
  | sl (sz : Nat) (rows : List (List PV)) (a : Addr) (cap : Nat) (us : Nat → Nat → Value) (hc : rows.length ≤ cap) (hm : cap ≤ maxLen) (hsz : 0 < sz)
      (hb : 0 < rows.length → a.block < w.heap.size ∧ ¬ A a.block) (hl : ∀ (i : Nat) (row : List PV), rows[i]? = some row → row.length = sz)
      (hr : ∀ (i : Nat) (row : List PV) (j : Nat) (p : PV), rows[i]? = some row → row[j]? = some p → w.cell? (a.add (i * sz + j)) = some (us i j) ∧ (us i j).oneCell' = true)
      (hp : ∀ (i : Nat) (row : List PV) (j : Nat) (p : PV), rows[i]? = some row → row[j]? = some p → PR w A p (us i j)) : PR w A (.sl sz rows) (.slice (some a) rows.length cap)
  | ptr (cs : List PV) (a : Addr) (us : Nat → Value) (hb : 0 < cs.length → a.block < w.heap.size ∧ ¬ A a.block)
      (hr : ∀ (j : Nat) (p : PV), cs[j]? = some p → w.cell? (a.add j) = some (us j) ∧ (us j).oneCell' = true) (hp : ∀ (j : Nat) (p : PV), cs[j]? = some p → PR w A p (us j)) : PR w A (.ptr cs) (.pointer (some a))
  | agg (cs : List PV) (vs : Array Value) (hl : vs.size = cs.length) (hp : ∀ (j : Nat) (p : PV), cs[j]? = some p → PR w A p (vs.getD j undef)) : PR w A (.agg cs) (.agg vs)
  | tup (cs : List PV) (vs : Array Value) (hl : vs.size = cs.length) (hp : ∀ (j : Nat) (p : PV), cs[j]? = some p → PR w A p (vs.getD j undef)) : PR w A (.tup cs) (.tuple vs)
  | fn (f : FuncId) (cs : List PV) (vs : Array Value) (hl : vs.size = cs.length) (hp : ∀ (j : Nat) (p : PV), cs[j]? = some p → PR w A p (vs.getD j undef)) : PR w A (.fn f cs) (.func (.func f) #[] vs)

inductive AR (w : World) (A : Nat → Prop) (β : BM) : AV → Value → Prop
  | junk (v : Value) : AR w A β .junk v
  | gh (i : Nat) (t : Bool) (v : Value) : AR w A β (.gh i t) v
  | pure (p : PV) (v : Value) (h : PR w A p v) : AR w A β (.pure p) v
  | loc (k i j : Nat) (bi : BI) (h : β k = some bi) : AR w A β (.loc k i j) (.pointer (some ⟨bi.b, i * bi.sz + j, none⟩))
  | locDead (k i j : Nat) (v : Value) (h : β k = none) : AR w A β (.loc k i j) v
  | lsl (k i n : Nat) (bi : BI) (cap : Nat) (h : β k = some bi) (hv : bi.virt = false) (hn : n ≤ cap) (hc : (i + cap) * bi.sz ≤ bi.tot) (hi : i + n ≤ bi.len) (hm : cap ≤ maxLen) : AR w A β (.lsl k i n) (.slice (some ⟨bi.b, i * bi.sz, none⟩) n cap)
  | lslV (k i : Nat) (bi : BI) (a : Option Addr) (h : β k = some bi) (hi : i ≤ bi.len) : AR w A β (.lsl k i 0) (.slice a 0 0)
  | lslDead (k i n : Nat) (v : Value) (h : β k = none) : AR w A β (.lsl k i n) v
  | agg (cs : List AV) (vs : Array Value) (hl : vs.size = cs.length) (hp : ∀ (j : Nat) (p : AV), cs[j]? = some p → AR w A β p (vs.getD j undef)) : AR w A β (.agg cs) (.agg vs)
  | fn (f : FuncId) (cs : List AV) (vs : Array Value) (hl : vs.size = cs.length) (hp : ∀ (j : Nat) (p : AV), cs[j]? = some p → AR w A β p (vs.getD j undef)) : AR w A β (.fn f cs) (.func (.func f) #[] vs)
  | tup (cs : List AV) (vs : Array Value) (hl : vs.size = cs.length) (hp : ∀ (j : Nat) (p : AV), cs[j]? = some p → AR w A β p (vs.getD j undef)) : AR w A β (.tup cs) (.tuple vs)

/-- What was there and not to be avoided is as it was, and is not to be avoided. -/
structure Ad (w : World) (A : Nat → Prop) (w' : World) (A' : Nat → Prop) : Prop where
  size : w.heap.size ≤ w'.heap.size
  same : ∀ b, b < w.heap.size → ¬ A b → w'.heap[b]? = w.heap[b]? ∧ ¬ A' b

theorem block_add (a : Addr) (n : Nat) : (a.add n).block = a.block := by unfold Addr.add; split <;> rfl

theorem PR.mono {w w' : World} {A A' : Nat → Prop} (h : Ad w A w' A') {p : PV} {v : Value} (hp : PR w A p v) : PR w' A' p v := by
  induction hp with
  | val v => exact .val v
  | slnil sz => exact .slnil sz
  | sl sz rows a cap us hc hm hsz hb hl hr _ ih =>
    refine .sl sz rows a cap us hc hm hsz (fun hn => ?_) hl (fun i row j p h1 h2 => ?_) ih
    · obtain ⟨h1, h2⟩ := hb hn
      exact ⟨Nat.lt_of_lt_of_le h1 h.size, (h.same _ h1 h2).2⟩
    · have hn : 0 < rows.length := by
        have := (List.getElem?_eq_some_iff.1 h1).1; omega
      obtain ⟨h3, h4⟩ := hb hn
      obtain ⟨h5, h6⟩ := hr i row j p h1 h2
      refine ⟨?_, h6⟩
      rw [World.cell?_of_block (w := w) (by rw [block_add]; exact (h.same _ h3 h4).1)]
      exact h5
  | ptr cs a us hb hr _ ih =>
    refine .ptr cs a us (fun hn => ?_) (fun j p h1 => ?_) ih
    · obtain ⟨h1, h2⟩ := hb hn
      exact ⟨Nat.lt_of_lt_of_le h1 h.size, (h.same _ h1 h2).2⟩
    · have hn : 0 < cs.length := by
        have := (List.getElem?_eq_some_iff.1 h1).1; omega
      obtain ⟨h3, h4⟩ := hb hn
      obtain ⟨h5, h6⟩ := hr j p h1
      refine ⟨?_, h6⟩
      rw [World.cell?_of_block (w := w) (by rw [block_add]; exact (h.same _ h3 h4).1)]
      exact h5
  | agg cs vs hl _ ih => exact .agg cs vs hl ih
  | tup cs vs hl _ ih => exact .tup cs vs hl ih
  | fn f cs vs hl _ ih => exact .fn f cs vs hl ih

theorem AR.mono {w w' : World} {A A' : Nat → Prop} {β β' : BM} (h : Ad w A w' A') {p : AV} {v : Value} (hp : AR w A β p v) (hk : ∀ k ∈ p.keys, β' k = β k) : AR w' A' β' p v := by
  induction hp with
  | junk v => exact .junk v
  | gh i t v => exact .gh i t v
  | pure p v hp => exact .pure p v (hp.mono h)
  | loc k i j bi hb => exact .loc k i j bi ((hk k (by simp [AV.keys])).trans hb)
  | locDead k i j v hb => exact .locDead k i j v ((hk k (by simp [AV.keys])).trans hb)
  | lsl k i n bi cap hb hv hn hc hi hm => exact .lsl k i n bi cap ((hk k (by simp [AV.keys])).trans hb) hv hn hc hi hm
  | lslV k i bi a hb hi => exact .lslV k i bi a ((hk k (by simp [AV.keys])).trans hb) hi
  | lslDead k i n v hb => exact .lslDead k i n v ((hk k (by simp [AV.keys])).trans hb)
  | agg cs vs hl _ ih =>
    exact .agg cs vs hl fun j p hj => ih j p hj fun k hkp => hk k (by simp only [AV.keys]; exact AV.mem_keysL.2 ⟨p, List.mem_of_getElem? hj, hkp⟩)
  | fn f cs vs hl _ ih =>
    exact .fn f cs vs hl fun j p hj => ih j p hj fun k hkp => hk k (by simp only [AV.keys]; exact AV.mem_keysL.2 ⟨p, List.mem_of_getElem? hj, hkp⟩)
  | tup cs vs hl _ ih =>
    exact .tup cs vs hl fun j p hj => ih j p hj fun k hkp => hk k (by simp only [AV.keys]; exact AV.mem_keysL.2 ⟨p, List.mem_of_getElem? hj, hkp⟩)

/-- Not frozen anywhere. -/
def NF (cs : Array Value) (fz : Nat × Nat) : Prop := ∀ j, j < cs.size → ¬ (fz.1 ≤ j ∧ j < fz.2)

theorem NF.zero (cs : Array Value) : NF cs (0, 0) := fun j _ h => by simp at h

/-- What a live local block is in memory. -/
def BOK (w : World) (A : Nat → Prop) (β : BM) (bi : BI) : Blk → Prop
  | .box cells => bi.virt = false ∧ ∃ cs e fz, w.heap[bi.b]? = some (.cells cs e fz) ∧ NF cs fz ∧ cs.size = cells.length ∧ bi.tot = cs.size ∧
      ∀ (j : Nat) (av : AV), cells[j]? = some av → AR w A β av (cs.getD j undef) ∧ (cs.getD j undef).oneCell' = true
  | .row sz rows => bi.sz = sz ∧ 0 < sz ∧ rows.length = bi.len ∧ (∀ (i : Nat) (row : List PV), rows[i]? = some row → row.length = sz) ∧
      ((bi.virt = true ∧ rows = []) ∨ (bi.virt = false ∧ ∃ cs e fz, w.heap[bi.b]? = some (.cells cs e fz) ∧ NF cs fz ∧ bi.tot = cs.size ∧ rows.length * sz ≤ bi.tot ∧
        ∀ (i : Nat) (row : List PV) (j : Nat) (p : PV), rows[i]? = some row → row[j]? = some p → PR w A p (cs.getD (i * sz + j) undef) ∧ (cs.getD (i * sz + j) undef).oneCell' = true))

def BO (w : World) (A : Nat → Prop) (β : BM) : Option BI → Option Blk → Prop
  | none, none => True
  | some bi, some blk => BOK w A β bi blk
  | _, _ => False

theorem BOK.mono {w w' : World} {A A' : Nat → Prop} {β β' : BM} (h : Ad w A w' A') {bi : BI} {blk : Blk} (hb : BOK w A β bi blk) (hk : ∀ k ∈ blk.keys, β' k = β k)
    (hs : bi.virt = false → w'.heap[bi.b]? = w.heap[bi.b]?) : BOK w' A' β' bi blk := by
  cases blk with
  | box cells =>
    obtain ⟨h1, cs, e, fz, h2, h3, h4, h5, h6⟩ := hb
    refine ⟨h1, cs, e, fz, (hs h1).trans h2, h3, h4, h5, fun j av hj => ⟨(h6 j av hj).1.mono h fun k hkp => hk k ?_, (h6 j av hj).2⟩⟩
    simp only [Blk.keys]
    exact AV.mem_keysL.2 ⟨av, List.mem_of_getElem? hj, hkp⟩
  | row sz rows =>
    obtain ⟨h1, h2, h2', h3, h4⟩ := hb
    refine ⟨h1, h2, h2', h3, ?_⟩
    rcases h4 with h4 | ⟨h4, cs, e, fz, h5, h6, h7, h8, h9⟩
    · exact .inl h4
    · exact .inr ⟨h4, cs, e, fz, (hs h4).trans h5, h6, h7, h8, fun i row j p hi hj => ⟨(h9 i row j p hi hj).1.mono h, (h9 i row j p hi hj).2⟩⟩

/-- Of what was there when the call began, nothing but the blocks handed over has turned. -/
structure Kp (E : Nat → Prop) (w w' : World) : Prop where
  os : w'.os = w.os
  tape : w'.tape = w.tape
  output : w'.output = w.output
  size : w.heap.size ≤ w'.heap.size
  block : ∀ b, b < w.heap.size → ¬ E b → w'.heap[b]? = w.heap[b]?

theorem Kp.refl (E : Nat → Prop) (w : World) : Kp E w w := ⟨rfl, rfl, rfl, Nat.le_refl _, fun _ _ _ => rfl⟩
theorem Kp.trans {E : Nat → Prop} {a b c : World} (h : Kp E a b) (k : Kp E b c) : Kp E a c :=
  ⟨k.os.trans h.os, k.tape.trans h.tape, k.output.trans h.output, Nat.le_trans h.size k.size, fun i hi he => (k.block i (Nat.lt_of_lt_of_le hi h.size) he).trans (h.block i hi he)⟩

def Ex (β : BM) (b : Nat) : Prop := ∃ k bi, β k = some bi ∧ bi.virt = false ∧ bi.b = b

/-- The loop over a function for which an iterator runs: its record l, what it is to be given, what holds between two rounds (J i false) and behind a round that says 'no more' (J i true), of the blocks X that are not the iterator's, and of those E that the iterator may write. -/
structure Yl (P : Program) where
  on : Bool
  rd : Bool
  l : Nat
  xs : List (List PV)
  J : Nat → Bool → (Nat → Prop) → (Nat → Prop) → World → Prop
  stable : ∀ i t X E E' w w', J i t X E w → Kp E w w' → (∀ b, E' b → (E b ∨ w.heap.size ≤ b) ∧ b < w'.heap.size) → J i t X E' w'
  round : ∀ i row X E W (args : Array Value), on = true → xs[i]? = some row → J i false X E W → (∀ b, X b → b < W.heap.size) → args.size = row.length →
    (∀ (j : Nat) (p : PV), row[j]? = some p → PR W (fun b => X b ∨ E b) p (args.getD j undef)) →
    YieldAt Fence.wide 0 P l args W fun e W' => ∃ t, e = .returned (.bool !t) ∧ J (i + 1) t (fun b => X b ∨ (W.heap.size ≤ b ∧ b < W'.heap.size)) E W' ∧ Kp X W W'

def Yl.none (P : Program) (rd : Bool := false) : Yl P := ⟨false, rd, 0, [], fun _ _ _ _ _ => True, fun _ _ _ _ _ _ _ _ _ _ => trivial, fun _ _ _ _ _ _ h => by cases h⟩

structure Ctx where
  P : Program
  N : Nat
  w0 : World
  X : Nat → Prop
  β0 : BM
  fx : List Nat
  y : Yl P
  hy : y.on = true → ∀ b, X b → Ex β0 b

@[reducible] def Ctx.plain (P : Program) (N : Nat) (w0 : World) (X : Nat → Prop) (β0 : BM) (fx : List Nat) : Ctx := ⟨P, N, w0, X, β0, fx, Yl.none P, fun h => by cases h⟩

structure Rl (Γ : Ctx) (s : St) (tm : Array Value) (w : World) (β : BM) : Prop where
  size : tm.size = Γ.N
  slots : ∀ t, AR w (Av Γ.X β) β (s.get t) (tm.getD t undef)
  blks : ∀ k, BO w (Av Γ.X β) β (β k) (s.blk k)
  inj : ∀ k k' bi bi', β k = some bi → β k' = some bi' → bi.virt = false → bi'.virt = false → bi.b = bi'.b → k = k'
  lt : ∀ k bi, β k = some bi → bi.virt = false → bi.b < w.heap.size
  notX : ∀ k bi, β k = some bi → bi.virt = false → ¬ Γ.X bi.b
  own : ∀ k bi, β k = some bi → bi.virt = false → Γ.w0.heap.size ≤ bi.b ∨ Ex Γ.β0 bi.b
  fixd : ∀ k ∈ Γ.fx, β k = Γ.β0 k
  used1 : ∀ t, ∀ k ∈ (s.get t).keys, k ∈ s.used
  used2 : ∀ k blk, s.blk k = some blk → k ∈ s.used ∧ ∀ k' ∈ blk.keys, k' ∈ s.used
  keep : Kp (Ex Γ.β0) Γ.w0 w
  Xlt : ∀ b, Γ.X b → b < w.heap.size

/-- A round of a loop over a function. -/
@[reducible] def Ctx.inRd (P : Program) (N : Nat) (w0 : World) (X : Nat → Prop) (β0 : BM) (fx : List Nat) : Ctx := ⟨P, N, w0, X, β0, fx, Yl.none P true, fun h => by cases h⟩

/-- The abstract state s fits the frame a and the world w, whose deferred calls are ds. -/
def R0 (Γ : Ctx) (ds : List Deferred) (s : St) (a : Act) (w : World) : Prop := a.defers = ds ∧ ∃ β, Rl Γ s a.tmps w β

/-- The same context, the call beginning here, with other blocks to be avoided. -/
@[reducible] def Ctx.here (Γ : Ctx) (X : Nat → Prop) (w : World) (β : BM) : Ctx := Ctx.plain Γ.P Γ.N w X β Γ.fx
@[reducible] def Ctx.atX (Γ : Ctx) (X : Nat → Prop) : Ctx := Ctx.plain Γ.P Γ.N Γ.w0 X Γ.β0 Γ.fx

/-- What holds beside: the blocks to be avoided are those of the context, and newer ones; what an iterator owes; the marks of loops over functions among the deferred calls. -/
structure Gh (Γ : Ctx) (X : Nat → Prop) (β : BM) (s : St) (ds : List Deferred) (w : World) : Prop where
  sub : ∀ b, Γ.X b → X b
  old : ∀ b, b < Γ.w0.heap.size → X b → Γ.X b
  gh : Γ.y.on = true → ∀ i t, s.get Γ.N = .gh i t → Γ.y.J i t X (Ex β) w
  lone : Γ.y.on = true → ds = []
  nd : ds.Nodup
  marks : ∀ d ∈ ds, ∃ D, d = { target := .collected D, args := #[] } ∧ w.heap[D]? = some (.deferred (some [])) ∧ (Γ.y.rd = false → Γ.w0.heap.size ≤ D) ∧ X D

def R (Γ : Ctx) (s : St) (a : Act) (w : World) : Prop := ∃ X β, Rl (Γ.atX X) s a.tmps w β ∧ Gh Γ X β s a.defers w
end Go.Avc
