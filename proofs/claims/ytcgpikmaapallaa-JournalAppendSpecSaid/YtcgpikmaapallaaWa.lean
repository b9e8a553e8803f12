/- Abstract values for Go values and memory: what a slot holds (AV, PV), what a local block holds (Blk), when a concrete value and world fit them (PR, AR, Rl). Conditions: none; definitions and their monotonicity. -/
import Derived.WalkKit
import Derived.WalkSpells
import Derived.Fence
import Derived.CallsIn
import Derived.TacticsIn
import Derived.RangeFuncIn
import Derived.RangeFuncRecord
import Derived.RangeFuncSeq
import Derived.RangeFuncLeaves
set_option linter.unusedSimpArgs false
set_option linter.unusedVariables false
set_option maxRecDepth 20000
set_option maxHeartbeats 4000000
namespace Go.Avc
open Go.RowKit
inductive PV where
 | val (v : Value)
 | sl (sz : Nat) (rows : List (List PV))
 | ptr (cs : List PV)
 | par (sz : Nat) (rows : List (List PV))
 | agg (cs : List PV)
 | tup (cs : List PV)
 | fn (f : FuncId) (cs : List PV)
 | slc (sz : Nat) (rows : List (List PV))
 | mp (ks : List Value) (vs : List PV)
inductive AV where
 | junk
 | pure (p : PV)
 | loc (k i j : Nat)
 | lsl (k i n : Nat)
 | agg (cs : List AV)
 | fn (f : FuncId) (cs : List AV)
 | tup (cs : List AV)
 | gh (i : Nat) (t : Bool)
 | mp (k : Nat)
def bmB : Nat := 1000000
abbrev PV.int (n : Int) : PV := .val (.int .i64 n)
abbrev PV.bool (b : Bool) : PV := .val (.bool b)
abbrev AV.int (n : Int) : AV := .pure (.val (.int .i64 n))
abbrev AV.bool (b : Bool) : AV := .pure (.val (.bool b))
mutual
def AV.keys : AV → List Nat
 | .loc k _ _ => [k]
 | .lsl k _ _ => [k]
 | .mp k => [k]
 | .agg cs => AV.keysL cs
 | .fn _ cs => AV.keysL cs
 | .tup cs => AV.keysL cs
 | _ => []
def AV.keysL : List AV → List Nat
 | [] => []
 | a :: l => a.keys ++ AV.keysL l
end
theorem AV.mem_keysL {l : List AV} {k : Nat} : k ∈ AV.keysL l ↔ ∃ a ∈ l, k ∈ a.keys := by
 induction l with
 | nil => simp [AV.keysL]
 | cons a l ih => simp [AV.keysL, ih]
inductive Blk where
 | box (cells : List AV)
 | row (sz : Nat) (rows : List (List PV))
 | mp (es : List (Value × PV))
def Blk.keys : Blk → List Nat
 | .box cs => AV.keysL cs
 | .row _ _ => []
 | .mp _ => []
def lk {α : Type} : List (Nat × α) → Nat → Option α
 | [], _ => none
 | (d, v) :: l, t => bif Nat.beq d t then some v else lk l t
structure St where
 env : List (Nat × AV)
 blks : List (Nat × Option Blk)
 used : List Nat
def St.get (s : St) (t : Nat) : AV := (lk s.env t).getD .junk
def St.blk (s : St) (k : Nat) : Option Blk := (lk s.blks k).join
def St.put (s : St) (d : Nat) (v : AV) : St := { s with env := (d, v) :: s.env }
def St.set (s : St) (k : Nat) (b : Blk) : St := { s with blks := (k, some b) :: s.blks }
def St.new (s : St) (k : Nat) (b : Blk) : St := { s with blks := (k, some b) :: s.blks, used := k :: s.used }
def St.kill (s : St) (k : Nat) : St := { s with blks := (k, none) :: s.blks }
@[simp] theorem beq_eq_decide (a b : Nat) : Nat.beq a b = decide (a = b) := by
 by_cases h : a = b
 · subst h; simp
 · rw [decide_eq_false h]
   exact Bool.eq_false_iff.2 fun h' => h (Nat.eq_of_beq_eq_true h')
theorem lk_cons {α : Type} (d : Nat) (v : α) (l : List (Nat × α)) (t : Nat) : lk ((d, v) :: l) t = if d = t then some v else lk l t := by
 simp only [lk, beq_eq_decide]
 by_cases h : d = t <;> simp [h]
theorem St.get_put (s : St) (d : Nat) (v : AV) (t : Nat) : (s.put d v).get t = if d = t then v else s.get t := by
 simp only [St.get, St.put, lk_cons]
 by_cases h : d = t <;> simp [h]
theorem St.blk_set (s : St) (k : Nat) (b : Blk) (k' : Nat) : (s.set k b).blk k' = if k = k' then some b else s.blk k' := by
 simp only [St.blk, St.set, lk_cons]
 by_cases h : k = k' <;> simp [h]
theorem St.blk_new (s : St) (k : Nat) (b : Blk) (k' : Nat) : (s.new k b).blk k' = if k = k' then some b else s.blk k' := by
 simp only [St.blk, St.new, lk_cons]
 by_cases h : k = k' <;> simp [h]
theorem St.blk_kill (s : St) (k : Nat) (k' : Nat) : (s.kill k).blk k' = if k = k' then none else s.blk k' := by
 simp only [St.blk, St.kill, lk_cons]
 by_cases h : k = k' <;> simp [h]
@[simp] theorem St.get_set (s : St) (k : Nat) (b : Blk) (t : Nat) : (s.set k b).get t = s.get t := rfl
@[simp] theorem St.get_new (s : St) (k : Nat) (b : Blk) (t : Nat) : (s.new k b).get t = s.get t := rfl
@[simp] theorem St.get_kill (s : St) (k : Nat) (t : Nat) : (s.kill k).get t = s.get t := rfl
structure BI where
 b : Nat
 sz : Nat
 tot : Nat
 len : Nat
 virt : Bool
abbrev BM := Nat → Option BI
def Av (X : Nat → Prop) (β : BM) (b : Nat) : Prop := X b ∨ ∃ k bi, β k = some bi ∧ bi.virt = false ∧ bi.b = b
def Stamps (ms : Array MapEntry) (clock : Nat) : Prop := (ms.toList.map (·.born)).Nodup ∧ ∀ e ∈ ms.toList, e.born < clock
theorem Stamps.nil : Stamps #[] 0 := ⟨List.nodup_nil, fun e h => by simp at h⟩
inductive PR (w : World) (A : Nat → Prop) : PV → Value → Prop
 | val (v : Value) : PR w A (.val v) v
 | slnil (sz : Nat) : PR w A (.sl sz []) (.slice none 0 0)
 | sl (sz : Nat) (rows : List (List PV)) (a : Addr) (cap : Nat) (us : Nat → Nat → Value) (hc : rows.length ≤ cap) (hm : cap ≤ maxLen) (hsz : 0 < sz)
     (hb : 0 < rows.length → a.block < w.heap.size ∧ ¬ A a.block) (hl : ∀ (i : Nat) (row : List PV), rows[i]? = some row → row.length = sz)
     (hr : ∀ (i : Nat) (row : List PV) (j : Nat) (p : PV), rows[i]? = some row → row[j]? = some p → w.cell? (a.add (i * sz + j)) = some (us i j) ∧ (us i j).oneCell' = true)
     (hp : ∀ (i : Nat) (row : List PV) (j : Nat) (p : PV), rows[i]? = some row → row[j]? = some p → PR w A p (us i j)) : PR w A (.sl sz rows) (.slice (some a) rows.length cap)
 | ptr (cs : List PV) (a : Addr) (us : Nat → Value) (hb : 0 < cs.length → a.block < w.heap.size ∧ ¬ A a.block)
     (hr : ∀ (j : Nat) (p : PV), cs[j]? = some p → w.cell? (a.add j) = some (us j) ∧ (us j).oneCell' = true) (hp : ∀ (j : Nat) (p : PV), cs[j]? = some p → PR w A p (us j)) : PR w A (.ptr cs) (.pointer (some a))
 | par (sz : Nat) (rows : List (List PV)) (a : Addr) (us : Nat → Nat → Value) (hsz : 0 < sz)
     (hb : 0 < rows.length → a.block < w.heap.size ∧ ¬ A a.block) (hl : ∀ (i : Nat) (row : List PV), rows[i]? = some row → row.length = sz)
     (hr : ∀ (i : Nat) (row : List PV) (j : Nat) (p : PV), rows[i]? = some row → row[j]? = some p → w.cell? (a.add (i * sz + j)) = some (us i j) ∧ (us i j).oneCell' = true)
     (hp : ∀ (i : Nat) (row : List PV) (j : Nat) (p : PV), rows[i]? = some row → row[j]? = some p → PR w A p (us i j)) : PR w A (.par sz rows) (.pointer (some a))
 | agg (cs : List PV) (vs : Array Value) (hl : vs.size = cs.length) (hp : ∀ (j : Nat) (p : PV), cs[j]? = some p → PR w A p (vs.getD j undef)) : PR w A (.agg cs) (.agg vs)
 | tup (cs : List PV) (vs : Array Value) (hl : vs.size = cs.length) (hp : ∀ (j : Nat) (p : PV), cs[j]? = some p → PR w A p (vs.getD j undef)) : PR w A (.tup cs) (.tuple vs)
 | fn (f : FuncId) (cs : List PV) (vs : Array Value) (hl : vs.size = cs.length ∧ f < bmB) (hp : ∀ (j : Nat) (p : PV), cs[j]? = some p → PR w A p (vs.getD j undef)) : PR w A (.fn f cs) (.func (.func f) #[] vs)
 | bm (f g : FuncId) (p : PV) (v : Value) (he : f = g + bmB) (hp : PR w A p v) : PR w A (.fn f [p]) (.func (.func g) #[v] #[])
 | slcnil (sz : Nat) : PR w A (.slc sz []) (.slice none 0 0)
 | slc (sz : Nat) (rows : List (List PV)) (a : Addr) (us : Nat → Nat → Value) (hm : rows.length ≤ maxLen) (hsz : 0 < sz)
     (hb : 0 < rows.length → a.block < w.heap.size ∧ ¬ A a.block) (hl : ∀ (i : Nat) (row : List PV), rows[i]? = some row → row.length = sz)
     (hr : ∀ (i : Nat) (row : List PV) (j : Nat) (p : PV), rows[i]? = some row → row[j]? = some p → w.cell? (a.add (i * sz + j)) = some (us i j) ∧ (us i j).oneCell' = true)
     (hp : ∀ (i : Nat) (row : List PV) (j : Nat) (p : PV), rows[i]? = some row → row[j]? = some p → PR w A p (us i j)) : PR w A (.slc sz rows) (.slice (some a) rows.length rows.length)
 | mp (ks : List Value) (vs : List PV) (b : Nat) (ms : Array MapEntry) (clock : Nat) (us : Nat → Value) (hb : b < w.heap.size ∧ ¬ A b) (hm : w.heap[b]? = some (.map ms clock)) (hl : ms.size = ks.length ∧ ms.size = vs.length ∧ Stamps ms clock)
     (hk : ∀ (i : Nat) (e : MapEntry), ms[i]? = some e → ks[i]? = some e.key ∧ e.val = us i) (hp : ∀ (i : Nat) (p : PV), vs[i]? = some p → PR w A p (us i)) : PR w A (.mp ks vs) (.map (some b))
inductive AR (w : World) (A : Nat → Prop) (β : BM) : AV → Value → Prop
 | junk (v : Value) : AR w A β .junk v
 | gh (i : Nat) (t : Bool) (v : Value) : AR w A β (.gh i t) v
 | pure (p : PV) (v : Value) (h : PR w A p v) : AR w A β (.pure p) v
 | loc (k i j : Nat) (bi : BI) (h : β k = some bi) : AR w A β (.loc k i j) (.pointer (some ⟨bi.b, i * bi.sz + j, none⟩))
 | locDead (k i j : Nat) (v : Value) (h : β k = none) : AR w A β (.loc k i j) v
 | lsl (k i n : Nat) (bi : BI) (cap : Nat) (h : β k = some bi) (hv : bi.virt = false) (hn : n ≤ cap) (hc : (i + cap) * bi.sz ≤ bi.tot) (hi : i + n ≤ bi.len) (hm : cap ≤ maxLen) : AR w A β (.lsl k i n) (.slice (some ⟨bi.b, i * bi.sz, none⟩) n cap)
 | lslV (k i : Nat) (bi : BI) (a : Option Addr) (h : β k = some bi) (hi : i ≤ bi.len) : AR w A β (.lsl k i 0) (.slice a 0 0)
 | lslDead (k i n : Nat) (v : Value) (h : β k = none) : AR w A β (.lsl k i n) v
 | agg (cs : List AV) (vs : Array Value) (hl : vs.size = cs.length) (hp : ∀ (j : Nat) (p : AV), cs[j]? = some p → AR w A β p (vs.getD j undef)) : AR w A β (.agg cs) (.agg vs)
 | fn (f : FuncId) (cs : List AV) (vs : Array Value) (hl : vs.size = cs.length ∧ f < bmB) (hp : ∀ (j : Nat) (p : AV), cs[j]? = some p → AR w A β p (vs.getD j undef)) : AR w A β (.fn f cs) (.func (.func f) #[] vs)
 | bm (f g : FuncId) (p : AV) (v : Value) (he : f = g + bmB) (hp : AR w A β p v) : AR w A β (.fn f [p]) (.func (.func g) #[v] #[])
 | tup (cs : List AV) (vs : Array Value) (hl : vs.size = cs.length) (hp : ∀ (j : Nat) (p : AV), cs[j]? = some p → AR w A β p (vs.getD j undef)) : AR w A β (.tup cs) (.tuple vs)
 | mp (k : Nat) (bi : BI) (h : β k = some bi) : AR w A β (.mp k) (.map (some bi.b))
 | mpDead (k : Nat) (v : Value) (h : β k = none) : AR w A β (.mp k) v
structure Ad (w : World) (A : Nat → Prop) (w' : World) (A' : Nat → Prop) : Prop where
 size : w.heap.size ≤ w'.heap.size
 same : ∀ b, b < w.heap.size → ¬ A b → w'.heap[b]? = w.heap[b]? ∧ ¬ A' b
theorem block_add (a : Addr) (n : Nat) : (a.add n).block = a.block := by unfold Addr.add; split <;> rfl
theorem PR.mono {w w' : World} {A A' : Nat → Prop} (h : Ad w A w' A') {p : PV} {v : Value} (hp : PR w A p v) : PR w' A' p v := by
 induction hp with
 | val v => exact .val v
 | slnil sz => exact .slnil sz
 | sl sz rows a cap us hc hm hsz hb hl hr _ ih =>
   refine .sl sz rows a cap us hc hm hsz (fun hn => ?_) hl (fun i row j p h1 h2 => ?_) ih
   · obtain ⟨h1, h2⟩ := hb hn
     exact ⟨Nat.lt_of_lt_of_le h1 h.size, (h.same _ h1 h2).2⟩
   · have hn : 0 < rows.length := by
       have := (List.getElem?_eq_some_iff.1 h1).1; omega
     obtain ⟨h3, h4⟩ := hb hn
     obtain ⟨h5, h6⟩ := hr i row j p h1 h2
     refine ⟨?_, h6⟩
     rw [World.cell?_of_block (w := w) (by rw [block_add]; exact (h.same _ h3 h4).1)]
     exact h5
 | ptr cs a us hb hr _ ih =>
   refine .ptr cs a us (fun hn => ?_) (fun j p h1 => ?_) ih
   · obtain ⟨h1, h2⟩ := hb hn
     exact ⟨Nat.lt_of_lt_of_le h1 h.size, (h.same _ h1 h2).2⟩
   · have hn : 0 < cs.length := by
       have := (List.getElem?_eq_some_iff.1 h1).1; omega
     obtain ⟨h3, h4⟩ := hb hn
     obtain ⟨h5, h6⟩ := hr j p h1
     refine ⟨?_, h6⟩
     rw [World.cell?_of_block (w := w) (by rw [block_add]; exact (h.same _ h3 h4).1)]
     exact h5
 | par sz rows a us hsz hb hl hr _ ih =>
   refine .par sz rows a us hsz (fun hn => ?_) hl (fun i row j p h1 h2 => ?_) ih
   · obtain ⟨h1, h2⟩ := hb hn
     exact ⟨Nat.lt_of_lt_of_le h1 h.size, (h.same _ h1 h2).2⟩
   · have hn : 0 < rows.length := by
       have := (List.getElem?_eq_some_iff.1 h1).1; omega
     obtain ⟨h3, h4⟩ := hb hn
     obtain ⟨h5, h6⟩ := hr i row j p h1 h2
     refine ⟨?_, h6⟩
     rw [World.cell?_of_block (w := w) (by rw [block_add]; exact (h.same _ h3 h4).1)]
     exact h5
 | agg cs vs hl _ ih => exact .agg cs vs hl ih
 | tup cs vs hl _ ih => exact .tup cs vs hl ih
 | fn f cs vs hl _ ih => exact .fn f cs vs hl ih
 | bm f g p v he _ ih => exact .bm f g p v he ih
 | slcnil sz => exact .slcnil sz
 | slc sz rows a us hm hsz hb hl hr _ ih =>
   refine .slc sz rows a us hm hsz (fun hn => ?_) hl (fun i row j p h1 h2 => ?_) ih
   · obtain ⟨h1, h2⟩ := hb hn
     exact ⟨Nat.lt_of_lt_of_le h1 h.size, (h.same _ h1 h2).2⟩
   · have hn : 0 < rows.length := by
       have := (List.getElem?_eq_some_iff.1 h1).1; omega
     obtain ⟨h3, h4⟩ := hb hn
     obtain ⟨h5, h6⟩ := hr i row j p h1 h2
     refine ⟨?_, h6⟩
     rw [World.cell?_of_block (w := w) (by rw [block_add]; exact (h.same _ h3 h4).1)]
     exact h5
 | mp ks vs b ms clock us hb hm hl hk _ ih =>
   exact .mp ks vs b ms clock us ⟨Nat.lt_of_lt_of_le hb.1 h.size, (h.same _ hb.1 hb.2).2⟩ ((h.same _ hb.1 hb.2).1.trans hm) hl hk ih
theorem AR.mono {w w' : World} {A A' : Nat → Prop} {β β' : BM} (h : Ad w A w' A') {p : AV} {v : Value} (hp : AR w A β p v) (hk : ∀ k ∈ p.keys, β' k = β k) : AR w' A' β' p v := by
 induction hp with
 | junk v => exact .junk v
 | gh i t v => exact .gh i t v
 | pure p v hp => exact .pure p v (hp.mono h)
 | loc k i j bi hb => exact .loc k i j bi ((hk k (by simp [AV.keys])).trans hb)
 | locDead k i j v hb => exact .locDead k i j v ((hk k (by simp [AV.keys])).trans hb)
 | lsl k i n bi cap hb hv hn hc hi hm => exact .lsl k i n bi cap ((hk k (by simp [AV.keys])).trans hb) hv hn hc hi hm
 | lslV k i bi a hb hi => exact .lslV k i bi a ((hk k (by simp [AV.keys])).trans hb) hi
 | lslDead k i n v hb => exact .lslDead k i n v ((hk k (by simp [AV.keys])).trans hb)
 | agg cs vs hl _ ih =>
   exact .agg cs vs hl fun j p hj => ih j p hj fun k hkp => hk k (by simp only [AV.keys]; exact AV.mem_keysL.2 ⟨p, List.mem_of_getElem? hj, hkp⟩)
 | fn f cs vs hl _ ih =>
   exact .fn f cs vs hl fun j p hj => ih j p hj fun k hkp => hk k (by simp only [AV.keys]; exact AV.mem_keysL.2 ⟨p, List.mem_of_getElem? hj, hkp⟩)
 | bm f g p v he _ ih => exact .bm f g p v he (ih fun k hkp => hk k (by simp only [AV.keys]; exact AV.mem_keysL.2 ⟨p, by simp, hkp⟩))
 | tup cs vs hl _ ih =>
   exact .tup cs vs hl fun j p hj => ih j p hj fun k hkp => hk k (by simp only [AV.keys]; exact AV.mem_keysL.2 ⟨p, List.mem_of_getElem? hj, hkp⟩)
 | mp k bi hb => exact .mp k bi ((hk k (by simp [AV.keys])).trans hb)
 | mpDead k v hb => exact .mpDead k v ((hk k (by simp [AV.keys])).trans hb)
def sha256K : List Nat := [0x428a2f98, 0x71374491, 0xb5c0fbcf, 0xe9b5dba5, 0x3956c25b, 0x59f111f1, 0x923f82a4, 0xab1c5ed5, 0xd807aa98, 0x12835b01, 0x243185be, 0x550c7dc3, 0x72be5d74, 0x80deb1fe, 0x9bdc06a7, 0xc19bf174, 0xe49b69c1, 0xefbe4786, 0x0fc19dc6, 0x240ca1cc, 0x2de92c6f, 0x4a7484aa, 0x5cb0a9dc, 0x76f988da, 0x983e5152, 0xa831c66d, 0xb00327c8, 0xbf597fc7, 0xc6e00bf3, 0xd5a79147, 0x06ca6351, 0x14292967, 0x27b70a85, 0x2e1b2138, 0x4d2c6dfc, 0x53380d13, 0x650a7354, 0x766a0abb, 0x81c2c92e, 0x92722c85, 0xa2bfe8a1, 0xa81a664b, 0xc24b8b70, 0xc76c51a3, 0xd192e819, 0xd6990624, 0xf40e3585, 0x106aa070, 0x19a4c116, 0x1e376c08, 0x2748774c, 0x34b0bcb5, 0x391c0cb3, 0x4ed8aa4a, 0x5b9cca4f, 0x682e6ff3, 0x748f82ee, 0x78a5636f, 0x84c87814, 0x8cc70208, 0x90befffa, 0xa4506ceb, 0xbef9a3f7, 0xc67178f2]
def deBruijnT : List Nat := [0, 1, 56, 2, 57, 49, 28, 3, 61, 58, 42, 50, 38, 29, 17, 4, 62, 47, 59, 36, 45, 43, 51, 22, 53, 39, 33, 30, 24, 18, 12, 5, 63, 55, 48, 27, 60, 41, 37, 16, 46, 35, 44, 21, 52, 32, 23, 11, 54, 26, 40, 15, 34, 20, 31, 10, 25, 14, 19, 9, 13, 8, 7, 6]
def tableOf (s : String) : Option (Nat × List (List PV)) :=
 if s = "testamur/digest.constants" then some (1, sha256K.map fun n : Nat => [.val (.int .u32 (n : Int))])
 else if s = "math/bits.deBruijn64tab" then some (1, deBruijnT.map fun n : Nat => [.val (.int .u8 (n : Int))]) else none
def globAt (P : Program) (g : Nat) : Option (Nat × List (List PV)) := (P.globals[g]?).bind fun gl => tableOf gl.name
def GlobOK (P : Program) (w : World) (A : Nat → Prop) : Prop := ∀ g sz rows, globAt P g = some (sz, rows) → PR w A (.par sz rows) (.pointer (some ⟨g, 0, none⟩))
theorem GlobOK.mono {P : Program} {w w' : World} {A A' : Nat → Prop} (h : GlobOK P w A) (had : Ad w A w' A') : GlobOK P w' A' := fun g sz rows hg => (h g sz rows hg).mono had
def NF (cs : Array Value) (fz : Nat × Nat) : Prop := ∀ j, j < cs.size → ¬ (fz.1 ≤ j ∧ j < fz.2)
theorem NF.zero (cs : Array Value) : NF cs (0, 0) := fun j _ h => by simp at h
def BOK (w : World) (A : Nat → Prop) (β : BM) (bi : BI) : Blk → Prop
 | .box cells => bi.virt = false ∧ ∃ cs e fz, w.heap[bi.b]? = some (.cells cs e fz) ∧ NF cs fz ∧ cs.size = cells.length ∧ bi.tot = cs.size ∧
     ∀ (j : Nat) (av : AV), cells[j]? = some av → AR w A β av (cs.getD j undef) ∧ (cs.getD j undef).oneCell' = true
 | .row sz rows => bi.sz = sz ∧ 0 < sz ∧ rows.length = bi.len ∧ (∀ (i : Nat) (row : List PV), rows[i]? = some row → row.length = sz) ∧
     ((bi.virt = true ∧ rows = []) ∨ (bi.virt = false ∧ ∃ cs e fz, w.heap[bi.b]? = some (.cells cs e fz) ∧ NF cs fz ∧ bi.tot = cs.size ∧ rows.length * sz ≤ bi.tot ∧
       ∀ (i : Nat) (row : List PV) (j : Nat) (p : PV), rows[i]? = some row → row[j]? = some p → PR w A p (cs.getD (i * sz + j) undef) ∧ (cs.getD (i * sz + j) undef).oneCell' = true))
 | .mp es => bi.virt = false ∧ ∃ (ms : Array MapEntry) (clock : Nat), w.heap[bi.b]? = some (.map ms clock) ∧ (ms.size = es.length ∧ Stamps ms clock) ∧
     ∀ (i : Nat) (e : MapEntry) (q : Value × PV), ms[i]? = some e → es[i]? = some q → e.key = q.1 ∧ PR w A q.2 e.val
def BO (w : World) (A : Nat → Prop) (β : BM) : Option BI → Option Blk → Prop
 | none, none => True
 | some bi, some blk => BOK w A β bi blk
 | _, _ => False
theorem BOK.mono {w w' : World} {A A' : Nat → Prop} {β β' : BM} (h : Ad w A w' A') {bi : BI} {blk : Blk} (hb : BOK w A β bi blk) (hk : ∀ k ∈ blk.keys, β' k = β k)
   (hs : bi.virt = false → w'.heap[bi.b]? = w.heap[bi.b]?) : BOK w' A' β' bi blk := by
 cases blk with
 | box cells =>
   obtain ⟨h1, cs, e, fz, h2, h3, h4, h5, h6⟩ := hb
   refine ⟨h1, cs, e, fz, (hs h1).trans h2, h3, h4, h5, fun j av hj => ⟨(h6 j av hj).1.mono h fun k hkp => hk k ?_, (h6 j av hj).2⟩⟩
   simp only [Blk.keys]
   exact AV.mem_keysL.2 ⟨av, List.mem_of_getElem? hj, hkp⟩
 | row sz rows =>
   obtain ⟨h1, h2, h2', h3, h4⟩ := hb
   refine ⟨h1, h2, h2', h3, ?_⟩
   rcases h4 with h4 | ⟨h4, cs, e, fz, h5, h6, h7, h8, h9⟩
   · exact .inl h4
   · exact .inr ⟨h4, cs, e, fz, (hs h4).trans h5, h6, h7, h8, fun i row j p hi hj => ⟨(h9 i row j p hi hj).1.mono h, (h9 i row j p hi hj).2⟩⟩
 | mp es =>
   obtain ⟨h1, ms, cl, h2, h3, h4⟩ := hb
   exact ⟨h1, ms, cl, (hs h1).trans h2, h3, fun i e q hi hq => ⟨(h4 i e q hi hq).1, (h4 i e q hi hq).2.mono h⟩⟩
structure Tp (w' w : World) : Prop where
 eq : w'.tape = w.tape
 le : w.drawn ≤ w'.drawn
theorem Tp.trans {a b c : World} (h : Tp a b) (k : Tp b c) : Tp a c := ⟨h.eq.trans k.eq, Nat.le_trans k.le h.le⟩
theorem Tp.id (w : World) : Tp w w := ⟨rfl, Nat.le_refl _⟩
theorem tpr {w' w : World} (h : w'.tape = w.tape := by rfl) (d : w.drawn ≤ w'.drawn := by first | exact Nat.le_refl _ | exact Nat.le_succ _ | exact Nat.le_of_eq rfl) : Tp w' w := ⟨h, d⟩
structure Kp (E : Nat → Prop) (w w' : World) : Prop where
 os : w'.os = w.os
 tape : Tp w' w
 output : w'.output = w.output
 size : w.heap.size ≤ w'.heap.size
 block : ∀ b, b < w.heap.size → ¬ E b → w'.heap[b]? = w.heap[b]?
theorem Kp.refl (E : Nat → Prop) (w : World) : Kp E w w := ⟨rfl, tpr, rfl, Nat.le_refl _, fun _ _ _ => rfl⟩
theorem Kp.trans {E : Nat → Prop} {a b c : World} (h : Kp E a b) (k : Kp E b c) : Kp E a c :=
 ⟨k.os.trans h.os, k.tape.trans h.tape, k.output.trans h.output, Nat.le_trans h.size k.size, fun i hi he => (k.block i (Nat.lt_of_lt_of_le hi h.size) he).trans (h.block i hi he)⟩
def Ex (β : BM) (b : Nat) : Prop := ∃ k bi, β k = some bi ∧ bi.virt = false ∧ bi.b = b
structure Yl (P : Program) where
 on : Bool
 rd : Bool
 l : Nat
 xs : List (List PV)
 J : Nat → Bool → (Nat → Prop) → (Nat → Prop) → World → Prop
 stable : ∀ i t X E E' w w', J i t X E w → Kp E w w' → (∀ b, E' b → (E b ∨ w.heap.size ≤ b) ∧ b < w'.heap.size) → J i t X E' w'
 round : ∀ i row X E W (args : Array Value), on = true → xs[i]? = some row → J i false X E W → (∀ b, X b → b < W.heap.size) → args.size = row.length →
   (∀ (j : Nat) (p : PV), row[j]? = some p → PR W (fun b => X b ∨ E b) p (args.getD j undef)) →
   YieldAt Fence.wide 0 P l args W fun e W' => ∃ t, e = .returned (.bool !t) ∧ J (i + 1) t (fun b => X b ∨ (W.heap.size ≤ b ∧ b < W'.heap.size)) E W' ∧ Kp X W W'
def Yl.none (P : Program) (rd : Bool := false) : Yl P := ⟨false, rd, 0, [], fun _ _ _ _ _ => True, fun _ _ _ _ _ _ _ _ _ _ => trivial, fun _ _ _ _ _ _ h => by cases h⟩
structure Ctx where
 P : Program
 N : Nat
 w0 : World
 X : Nat → Prop
 β0 : BM
 fx : List Nat
 y : Yl P
 hy : y.on = true → ∀ b, X b → Ex β0 b
 pk : Option (Value × (St → Prop))
 df : List Deferred
@[reducible] def Ctx.plain (P : Program) (N : Nat) (w0 : World) (X : Nat → Prop) (β0 : BM) (fx : List Nat) : Ctx := ⟨P, N, w0, X, β0, fx, Yl.none P, (fun h => by cases h), none, []⟩
structure Rl (Γ : Ctx) (s : St) (tm : Array Value) (w : World) (β : BM) : Prop where
 size : tm.size = Γ.N
 slots : ∀ t, AR w (Av Γ.X β) β (s.get t) (tm.getD t undef)
 blks : ∀ k, BO w (Av Γ.X β) β (β k) (s.blk k)
 inj : ∀ k k' bi bi', β k = some bi → β k' = some bi' → bi.virt = false → bi'.virt = false → bi.b = bi'.b → k = k'
 lt : ∀ k bi, β k = some bi → bi.virt = false → bi.b < w.heap.size
 notX : ∀ k bi, β k = some bi → bi.virt = false → ¬ Γ.X bi.b
 own : ∀ k bi, β k = some bi → bi.virt = false → Γ.w0.heap.size ≤ bi.b ∨ Ex Γ.β0 bi.b
 fixd : ∀ k ∈ Γ.fx, β k = Γ.β0 k
 used1 : ∀ t, ∀ k ∈ (s.get t).keys, k ∈ s.used
 used2 : ∀ k blk, s.blk k = some blk → k ∈ s.used ∧ ∀ k' ∈ blk.keys, k' ∈ s.used
 keep : Kp (Ex Γ.β0) Γ.w0 w
 Xlt : ∀ b, Γ.X b → b < w.heap.size
 glob : GlobOK Γ.P w (Av Γ.X β)
@[reducible] def Ctx.inRd (P : Program) (N : Nat) (w0 : World) (X : Nat → Prop) (β0 : BM) (fx : List Nat) : Ctx := ⟨P, N, w0, X, β0, fx, Yl.none P true, (fun h => by cases h), none, []⟩
def R0 (Γ : Ctx) (ds : List Deferred) (s : St) (a : Act) (w : World) : Prop := a.defers = ds ∧ ∃ β, Rl Γ s a.tmps w β
@[reducible] def Ctx.here (Γ : Ctx) (X : Nat → Prop) (w : World) (β : BM) : Ctx := Ctx.plain Γ.P Γ.N w X β Γ.fx
@[reducible] def Ctx.atX (Γ : Ctx) (X : Nat → Prop) : Ctx := Ctx.plain Γ.P Γ.N Γ.w0 X Γ.β0 Γ.fx
structure Gh (Γ : Ctx) (X : Nat → Prop) (β : BM) (s : St) (ds : List Deferred) (w : World) : Prop where
 sub : ∀ b, Γ.X b → X b
 old : ∀ b, b < Γ.w0.heap.size → X b → Γ.X b
 gh : Γ.y.on = true → ∀ i t, s.get Γ.N = .gh i t → Γ.y.J i t X (Ex β) w
 lone : Γ.y.on = true → ds = []
 marks : ∃ mk : List Deferred, ds = mk ++ Γ.df ∧ mk.Nodup ∧ ∀ d ∈ mk, ∃ D, d = { target := .collected D, args := #[] } ∧ w.heap[D]? = some (.deferred (some [])) ∧ (Γ.y.rd = false → Γ.w0.heap.size ≤ D) ∧ X D
def R (Γ : Ctx) (s : St) (a : Act) (w : World) : Prop := ∃ X β, Rl (Γ.atX X) s a.tmps w β ∧ Gh Γ X β s a.defers w
end Go.Avc
/- Steps of the relation between abstract and concrete states: a slot is written, a block is made, written, given up; what a value reads as once no local block is left. Conditions: none. -/
namespace Go.Avc
open Go.RowKit
theorem getD_set (tm : Array Value) (d : Nat) (u : Value) (t : Nat) (hd : d < tm.size) : (tm.setIfInBounds d u).getD t undef = if d = t then u else tm.getD t undef := by
 simp only [Array.getD_eq_getD_getElem?, Array.getElem?_setIfInBounds]
 by_cases h : d = t
 · subst h; simp [hd]
 · simp [h]
section
variable {Γ : Ctx} {s : St} {tm : Array Value} {w : World} {β : BM}
theorem Rl.put (h : Rl Γ s tm w β) {d : Nat} {v : AV} {u : Value} (hd : d < Γ.N) (hv : AR w (Av Γ.X β) β v u) (hk : ∀ k ∈ v.keys, k ∈ s.used) : Rl Γ (s.put d v) (tm.setIfInBounds d u) w β :=
 { h with
   size := by simp [h.size]
   slots := fun t => by
     rw [St.get_put, getD_set _ _ _ _ (by rw [h.size]; exact hd)]
     by_cases e : d = t
     · simpa [e] using hv
     · simpa [e] using h.slots t
   used1 := fun t k hkt => by
     rw [St.get_put] at hkt
     by_cases e : d = t
     · rw [if_pos e] at hkt; exact hk k hkt
     · rw [if_neg e] at hkt; exact h.used1 t k hkt }
theorem Rl.heap {w' : World} (h : Rl Γ s tm w β) (hh : w'.heap = w.heap) (ho : w'.os = w.os) (ht : Tp w' w) (hp : w'.output = w.output) : Rl Γ s tm w' β := by
 have had : Ad w (Av Γ.X β) w' (Av Γ.X β) := ⟨by rw [hh]; exact Nat.le_refl _, fun b _ hb => ⟨by rw [hh], hb⟩⟩
 exact
 { h with
   slots := fun t => (h.slots t).mono had fun _ _ => rfl
   blks := fun k => by
     have := h.blks k
     revert this
     cases β k <;> cases s.blk k <;> simp only [BO, imp_self]
     intro hb
     exact hb.mono had (fun _ _ => rfl) fun _ => by rw [hh]
   lt := fun k bi hk hv => by rw [hh]; exact h.lt k bi hk hv
   Xlt := fun b hb => by rw [hh]; exact h.Xlt b hb
   glob := h.glob.mono had
   keep := h.keep.trans ⟨ho, ht, hp, by rw [hh]; exact Nat.le_refl _, fun b _ _ => by rw [hh]⟩ }
theorem Rl.none_of (h : Rl Γ s tm w β) {k : Nat} (hk : k ∉ s.used) : β k = none := by
 have hb := h.blks k
 cases hβ : β k with
 | none => rfl
 | some bi =>
   rw [hβ] at hb
   cases hs : s.blk k with
   | none => rw [hs] at hb; exact hb.elim
   | some blk => exact absurd (h.used2 k blk hs).1 hk
theorem av_ext {X : Nat → Prop} {β β' : BM} {k : Nat} {bi : BI} (h0 : β k = none) (hk : β' k = some bi) (ho : ∀ j, j ≠ k → β' j = β j) {b : Nat} (hb : ¬ Av X β b) (hne : bi.virt = false → bi.b ≠ b) : ¬ Av X β' b := by
 rintro (hx | ⟨j, bj, hj, hv, rfl⟩)
 · exact hb (.inl hx)
 · by_cases e : j = k
   · subst e
     rw [hk] at hj
     cases hj
     exact hne hv rfl
   · exact hb (.inr ⟨j, bj, by rw [← ho j e]; exact hj, hv, rfl⟩)
theorem Rl.newK (h : Rl Γ s tm w β) {k : Nat} (hk : k ∉ s.used) (hfx : k ∉ Γ.fx) (bi : BI) (blk : Blk) {w' : World} (hsz : w.heap.size ≤ w'.heap.size)
   (hold : ∀ b, b < w.heap.size → w'.heap[b]? = w.heap[b]?) (ho : w'.os = w.os) (ht : Tp w' w) (hp : w'.output = w.output)
   (hb : bi.virt = false → bi.b = w.heap.size ∧ w.heap.size < w'.heap.size)
   (hbk : ∀ k' ∈ blk.keys, k' ∈ s.used)
   (hblk : ∀ β' : BM, β' k = some bi → (∀ j, j ≠ k → β' j = β j) → Ad w (Av Γ.X β) w' (Av Γ.X β') → BOK w' (Av Γ.X β') β' bi blk) :
   Rl Γ (s.new k blk) tm w' (fun j => if j = k then some bi else β j) := by
 generalize hβ' : (fun j => if j = k then some bi else β j) = β'
 have e1 : β' k = some bi := by rw [← hβ']; simp
 have e2 : ∀ j, j ≠ k → β' j = β j := fun j hj => by rw [← hβ']; simp [hj]
 have h0 := h.none_of hk
 have had : Ad w (Av Γ.X β) w' (Av Γ.X β') := ⟨hsz, fun b hlt hA => ⟨hold b hlt, av_ext h0 e1 e2 hA fun hv => by have := (hb hv).1; omega⟩⟩
 have hu : ∀ {l : List Nat}, (∀ x ∈ l, x ∈ s.used) → ∀ x ∈ l, β' x = β x := fun hl x hx => e2 x fun e => hk (e ▸ hl x hx)
 have hX : ∀ b, Γ.X b → b < w.heap.size := h.Xlt
 refine
 { size := h.size
   slots := fun t => (h.slots t).mono had (hu (h.used1 t))
   blks := fun j => ?_
   inj := fun j j' bj bj' hj hj' hv hv' hbb => ?_
   lt := fun j bj hj hv => ?_
   notX := fun j bj hj hv => ?_
   own := fun j bj hj hv => ?_
   fixd := fun j hj => (e2 j fun e => hfx (e ▸ hj)).trans (h.fixd j hj)
   used1 := fun t x hx => List.mem_cons_of_mem _ (h.used1 t x hx)
   used2 := fun j b hj => ?_
   keep := h.keep.trans ⟨ho, ht, hp, hsz, fun b hlt _ => hold b hlt⟩
   Xlt := fun b hb => Nat.lt_of_lt_of_le (h.Xlt b hb) hsz
   glob := h.glob.mono had }
 · rw [St.blk_new]
   by_cases e : k = j
   · subst e
     rw [if_pos rfl, e1]
     exact hblk β' e1 e2 had
   · rw [if_neg e, e2 j (Ne.symm e)]
     have hb := h.blks j
     cases hs : s.blk j with
     | none =>
       rw [hs] at hb
       cases hbj : β j with
       | none => trivial
       | some x => rw [hbj] at hb; exact hb.elim
     | some blk' =>
       rw [hs] at hb
       cases hbj : β j with
       | none => rw [hbj] at hb; exact hb.elim
       | some x =>
         rw [hbj] at hb
         exact BOK.mono had hb (hu (h.used2 j blk' hs).2) fun hv => hold _ (h.lt j x hbj hv)
 · by_cases e : j = k <;> by_cases e' : j' = k
   · rw [e, e']
   · subst e
     rw [e1] at hj; cases hj
     rw [e2 j' e'] at hj'
     have := h.lt j' bj' hj' hv'
     have := (hb hv).1
     omega
   · subst e'
     rw [e1] at hj'; cases hj'
     rw [e2 j e] at hj
     have := h.lt j bj hj hv
     have := (hb hv').1
     omega
   · rw [e2 j e] at hj
     rw [e2 j' e'] at hj'
     exact h.inj j j' bj bj' hj hj' hv hv' hbb
 · by_cases e : j = k
   · subst e
     rw [e1] at hj; cases hj
     have := hb hv
     omega
   · rw [e2 j e] at hj
     exact Nat.lt_of_lt_of_le (h.lt j bj hj hv) hsz
 · by_cases e : j = k
   · subst e
     rw [e1] at hj; cases hj
     intro hx
     have := hX _ hx
     have := (hb hv).1
     omega
   · rw [e2 j e] at hj
     exact h.notX j bj hj hv
 · by_cases e : j = k
   · subst e
     rw [e1] at hj; cases hj
     have h1 := (hb hv).1
     have h2 := h.keep.size
     exact .inl (by omega)
   · rw [e2 j e] at hj
     exact h.own j bj hj hv
 · rw [St.blk_new] at hj
   by_cases e : k = j
   · subst e
     rw [if_pos rfl] at hj; cases hj
     exact ⟨List.mem_cons_self, fun x hx => List.mem_cons_of_mem _ (hbk x hx)⟩
   · rw [if_neg e] at hj
     exact ⟨List.mem_cons_of_mem _ (h.used2 j b hj).1, fun x hx => List.mem_cons_of_mem _ ((h.used2 j b hj).2 x hx)⟩
theorem Rl.upd (h : Rl Γ s tm w β) {k : Nat} {bi : BI} (hβ : β k = some bi) (hv : bi.virt = false) {w' : World} (hsz : w'.heap.size = w.heap.size)
   (hold : ∀ b, b ≠ bi.b → w'.heap[b]? = w.heap[b]?) (ho : w'.os = w.os) (ht : Tp w' w) (hp : w'.output = w.output) {blk : Blk}
   (hbk : ∀ k' ∈ blk.keys, k' ∈ s.used)
   (hblk : Ad w (Av Γ.X β) w' (Av Γ.X β) → BOK w' (Av Γ.X β) β bi blk) : Rl Γ (s.set k blk) tm w' β := by
 have had : Ad w (Av Γ.X β) w' (Av Γ.X β) := ⟨by omega, fun b _ hA => ⟨hold b fun e => hA (.inr ⟨k, bi, hβ, hv, e.symm⟩), hA⟩⟩
 refine
 { size := h.size
   slots := fun t => (h.slots t).mono had fun _ _ => rfl
   blks := fun j => ?_
   inj := h.inj
   lt := fun j bj hj hv => by rw [hsz]; exact h.lt j bj hj hv
   notX := h.notX
   own := h.own
   fixd := h.fixd
   used1 := h.used1
   used2 := fun j b hj => ?_
   keep := ⟨ho.trans h.keep.os, ht.trans h.keep.tape, hp.trans h.keep.output, by have := h.keep.size; omega, fun b hlt hE => (hold b fun e => ?_).trans (h.keep.block b hlt hE)⟩
   Xlt := fun b hb => by rw [hsz]; exact h.Xlt b hb
   glob := h.glob.mono had }
 · rw [St.blk_set]
   by_cases e : k = j
   · subst e
     rw [if_pos rfl, hβ]
     exact hblk had
   · rw [if_neg e]
     have hb := h.blks j
     cases hs : s.blk j with
     | none =>
       rw [hs] at hb
       cases hbj : β j with
       | none => trivial
       | some x => rw [hbj] at hb; exact hb.elim
     | some blk' =>
       rw [hs] at hb
       cases hbj : β j with
       | none => rw [hbj] at hb; exact hb.elim
       | some x =>
         rw [hbj] at hb
         exact BOK.mono had hb (fun _ _ => rfl) fun hvx => hold _ fun e' => e (h.inj k j bi x hβ hbj hv hvx e'.symm)
 · rw [St.blk_set] at hj
   by_cases e : k = j
   · subst e
     rw [if_pos rfl] at hj; cases hj
     refine ⟨?_, hbk⟩
     have hb := h.blks k
     rw [hβ] at hb
     cases hs : s.blk k with
     | none => rw [hs] at hb; exact hb.elim
     | some blk' => exact (h.used2 k blk' hs).1
   · rw [if_neg e] at hj
     exact h.used2 j b hj
 · subst e
   rcases h.own k bi hβ hv with h1 | h1
   · omega
   · exact hE h1
theorem Rl.killK (h : Rl Γ s tm w β) {k : Nat} (hfx : k ∉ Γ.fx) : Rl Γ (s.kill k) tm w (fun j => if j = k then none else β j) := by
 generalize hβ' : (fun j => if j = k then none else β j) = β'
 have e1 : β' k = none := by rw [← hβ']; simp
 have e2 : ∀ j, j ≠ k → β' j = β j := fun j hj => by rw [← hβ']; simp [hj]
 have e3 : ∀ j bj, β' j = some bj → j ≠ k ∧ β j = some bj := fun j bj hj => by
   by_cases e : j = k
   · subst e; rw [e1] at hj; cases hj
   · exact ⟨e, by rw [← e2 j e]; exact hj⟩
 have had : Ad w (Av Γ.X β) w (Av Γ.X β') := ⟨Nat.le_refl _, fun b _ hA => ⟨rfl, fun hA' => hA (by
   rcases hA' with hx | ⟨j, bj, hj, hv, hb⟩
   · exact .inl hx
   · exact .inr ⟨j, bj, (e3 j bj hj).2, hv, hb⟩)⟩⟩
 have arm : ∀ {p : AV} {v : Value}, AR w (Av Γ.X β) β p v → AR w (Av Γ.X β') β' p v := by
   intro p v hp
   induction hp with
   | junk v => exact .junk v
   | gh i t v => exact .gh i t v
   | pure p v hp => exact .pure p v (hp.mono had)
   | loc k' i j bi hb =>
     by_cases e : k' = k
     · subst e; exact .locDead _ _ _ _ e1
     · exact .loc k' i j bi ((e2 k' e).trans hb)
   | locDead k' i j v hb => 
     by_cases e : k' = k
     · subst e; exact .locDead _ _ _ _ e1
     · exact .locDead k' i j v ((e2 k' e).trans hb)
   | lsl k' i n bi cap hb hv hn hc hi hm =>
     by_cases e : k' = k
     · subst e; exact .lslDead _ _ _ _ e1
     · exact .lsl k' i n bi cap ((e2 k' e).trans hb) hv hn hc hi hm
   | lslV k' i bi a hb hi =>
     by_cases e : k' = k
     · subst e; exact .lslDead _ _ _ _ e1
     · exact .lslV k' i bi a ((e2 k' e).trans hb) hi
   | lslDead k' i n v hb =>
     by_cases e : k' = k
     · subst e; exact .lslDead _ _ _ _ e1
     · exact .lslDead k' i n v ((e2 k' e).trans hb)
   | agg cs vs hl _ ih => exact .agg cs vs hl ih
   | fn f cs vs hl _ ih => exact .fn f cs vs hl ih
   | bm f g p v he _ ih => exact .bm f g p v he ih
   | tup cs vs hl _ ih => exact .tup cs vs hl ih
   | mp k' bi hb =>
     by_cases e : k' = k
     · subst e; exact .mpDead _ _ e1
     · exact .mp k' bi ((e2 k' e).trans hb)
   | mpDead k' v hb =>
     by_cases e : k' = k
     · subst e; exact .mpDead _ _ e1
     · exact .mpDead k' v ((e2 k' e).trans hb)
 refine
 { size := h.size
   slots := fun t => arm (h.slots t)
   blks := fun j => ?_
   inj := fun j j' bj bj' hj hj' => h.inj j j' bj bj' (e3 j bj hj).2 (e3 j' bj' hj').2
   lt := fun j bj hj => h.lt j bj (e3 j bj hj).2
   notX := fun j bj hj => h.notX j bj (e3 j bj hj).2
   own := fun j bj hj => h.own j bj (e3 j bj hj).2
   fixd := fun j hj => (e2 j fun e => hfx (e ▸ hj)).trans (h.fixd j hj)
   used1 := h.used1
   used2 := fun j b hj => ?_
   keep := h.keep
   Xlt := h.Xlt
   glob := h.glob.mono had }
 · rw [St.blk_kill]
   by_cases e : k = j
   · subst e; rw [if_pos rfl, e1]; trivial
   · rw [if_neg e, e2 j (Ne.symm e)]
     have hb := h.blks j
     cases hs : s.blk j with
     | none =>
       rw [hs] at hb
       cases hbj : β j with
       | none => trivial
       | some x => rw [hbj] at hb; exact hb.elim
     | some blk' =>
       rw [hs] at hb
       cases hbj : β j with
       | none => rw [hbj] at hb; exact hb.elim
       | some x =>
         rw [hbj] at hb
         cases blk' with
         | box cells =>
           obtain ⟨h1, cs, e', fz, h2, h3, h4, h5, h6⟩ := hb
           exact ⟨h1, cs, e', fz, h2, h3, h4, h5, fun j av hj => ⟨arm (h6 j av hj).1, (h6 j av hj).2⟩⟩
         | row sz rows =>
           refine BOK.mono (β := β) (β' := β') (blk := .row sz rows) had hb (fun y hy => ?_) fun _ => rfl
           simp only [Blk.keys, List.not_mem_nil] at hy
         | mp es =>
           refine BOK.mono (β := β) (β' := β') (blk := .mp es) had hb (fun y hy => ?_) fun _ => rfl
           simp only [Blk.keys, List.not_mem_nil] at hy
 · rw [St.blk_kill] at hj
   by_cases e : k = j
   · subst e; rw [if_pos rfl] at hj; cases hj
   · rw [if_neg e] at hj
     exact h.used2 j b hj
end
def purL : List AV → Option (List PV)
 | [] => some []
 | .pure p :: l => match purL l with
   | some ps => some (p :: ps)
   | none => none
 | _ :: _ => none
def dropPV : Nat → List PV → List PV
 | 0, l => l
 | _ + 1, [] => []
 | n + 1, _ :: l => dropPV n l
theorem dropPV_eq : ∀ (n : Nat) (l : List PV), dropPV n l = l.drop n
 | 0, l => rfl
 | n + 1, [] => rfl
 | n + 1, _ :: l => by simp [dropPV, dropPV_eq n l]
theorem purL_eq : ∀ {l : List AV} {ps : List PV}, purL l = some ps → l = ps.map .pure
 | [], ps, h => by simp only [purL, Option.some.injEq] at h; subst h; rfl
 | .pure p :: l, ps, h => by
   simp only [purL] at h
   split at h
   · rename_i qs hq
     cases h
     rw [purL_eq hq]; rfl
   · cases h
 | .junk :: _, _, h => by cases h
 | .loc _ _ _ :: _, _, h => by cases h
 | .lsl _ _ _ :: _, _, h => by cases h
 | .agg _ :: _, _, h => by cases h
 | .fn _ _ :: _, _, h => by cases h
 | .tup _ :: _, _, h => by cases h
 | .gh _ _ :: _, _, h => by cases h
mutual
def toPV (B : Nat → Option Blk) : AV → Option PV
 | .pure p => some p
 | .lsl k i n => match B k with
   | some (.row sz rows) => some (.sl sz ((rows.drop i).take n))
   | _ => none
 | .loc k i j => match i with
   | 0 => match B k with
     | some (.box cs) => match purL cs with
       | some ps => some (.ptr (dropPV j ps))
       | none => none
     | some (.row sz rows) => match j with
       | 0 => some (.par sz rows)
       | _ + 1 => none
     | _ => none
   | _ + 1 => none
 | .agg cs => (toPVL B cs).map .agg
 | .tup cs => (toPVL B cs).map .tup
 | .fn f cs => (toPVL B cs).map (.fn f)
 | _ => none
def toPVL (B : Nat → Option Blk) : List AV → Option (List PV)
 | [] => some []
 | a :: l => (toPV B a).bind fun p => (toPVL B l).map (p :: ·)
end
theorem toPVL_some {B : Nat → Option Blk} : ∀ {l : List AV} {ps : List PV}, toPVL B l = some ps → ps.length = l.length ∧ ∀ (j : Nat) (p : PV), ps[j]? = some p → ∃ a : AV, l[j]? = some a ∧ toPV B a = some p
 | [], ps, h => by simp only [toPVL, Option.some.injEq] at h; subst h; simp
 | a :: l, ps, h => by
   simp only [toPVL, Option.bind_eq_some_iff, Option.map_eq_some_iff] at h
   obtain ⟨p, hp, qs, hq, rfl⟩ := h
   obtain ⟨h1, h2⟩ := toPVL_some hq
   refine ⟨by simp [h1], fun j q hj => ?_⟩
   cases j with
   | zero => simp only [List.getElem?_cons_zero, Option.some.injEq] at hj; subst hj; exact ⟨a, by simp, hp⟩
   | succ j => simpa using h2 j q (by simpa using hj)
theorem getD_cell {w : World} {b : Nat} {cs : Array Value} {e : TypeId} {fz : Nat × Nat} (h : w.heap[b]? = some (.cells cs e fz)) {j : Nat} (hj : j < cs.size) : w.cell? ⟨b, j, none⟩ = some (cs.getD j undef) := by
 rw [cell_of_row w b j cs e fz h]
 simp [hj]
theorem PR_of_row {w : World} {A A' : Nat → Prop} {β : BM} {bi : BI} {sz : Nat} {rows : List (List PV)} (hb : BOK w A β bi (.row sz rows)) (hv : bi.virt = false) (had : Ad w A w A') (hA : ¬ A' bi.b)
   {i n cap : Nat} (hn : n ≤ cap) (hi : i + n ≤ bi.len) (hm : cap ≤ maxLen) : PR w A' (.sl sz ((rows.drop i).take n)) (.slice (some ⟨bi.b, i * bi.sz, none⟩) n cap) := by
 obtain ⟨h1, h2, h2', h3, h4⟩ := hb
 rcases h4 with ⟨h4, _⟩ | ⟨_, cs, e, fz, h5, h6, h7, h8, h9⟩
 · rw [hv] at h4; cases h4
 · have hlen : ((rows.drop i).take n).length = n := by simp; omega
   have hlt : bi.b < w.heap.size := (Array.getElem?_eq_some_iff.1 h5).1
   have hget : ∀ (x : Nat) (row : List PV), ((rows.drop i).take n)[x]? = some row → rows[i + x]? = some row ∧ x < n := fun x row hx => by
     have hxn : x < n := by have := (List.getElem?_eq_some_iff.1 hx).1; omega
     rw [List.getElem?_take, if_pos hxn, List.getElem?_drop] at hx
     exact ⟨hx, hxn⟩
   have hcell : ∀ (x : Nat) (row : List PV) (y : Nat) (p : PV), ((rows.drop i).take n)[x]? = some row → row[y]? = some p → w.cell? ((⟨bi.b, i * bi.sz, none⟩ : Addr).add (x * sz + y)) = some (cs.getD ((i + x) * sz + y) undef) := fun x row y p hx hy => by
     obtain ⟨hx', hxn⟩ := hget x row hx
     have hr := h3 _ row hx'
     have hy' : y < sz := by have := (List.getElem?_eq_some_iff.1 hy).1; omega
     have hxl : i + x < rows.length := (List.getElem?_eq_some_iff.1 hx').1
     rw [Addr.add_lit, h1]
     have e1 : i * sz + (x * sz + y) = (i + x) * sz + y := by rw [Nat.add_mul]; omega
     rw [e1]
     refine getD_cell h5 ?_
     have : (i + x) * sz + sz ≤ rows.length * sz := by
       rw [← Nat.succ_mul]; exact Nat.mul_le_mul_right _ hxl
     omega
   have := PR.sl (w := w) (A := A') sz ((rows.drop i).take n) ⟨bi.b, i * bi.sz, none⟩ cap (fun x y => cs.getD ((i + x) * sz + y) undef) (by omega) hm h2 (fun _ => ⟨hlt, hA⟩)
     (fun x row hx => h3 _ row (hget x row hx).1) (fun x row y p hx hy => ⟨hcell x row y p hx hy, (h9 _ row y p (hget x row hx).1 hy).2⟩)
     (fun x row y p hx hy => ((h9 _ row y p (hget x row hx).1 hy).1).mono had)
   rw [hlen] at this
   exact this
theorem PR_of_arr {w : World} {A A' : Nat → Prop} {β : BM} {bi : BI} {sz : Nat} {rows : List (List PV)} (hb : BOK w A β bi (.row sz rows)) (had : Ad w A w A') (hA : bi.virt = false → ¬ A' bi.b) :
   PR w A' (.par sz rows) (.pointer (some ⟨bi.b, 0, none⟩)) := by
 obtain ⟨h1, h2, h2', h3, h4⟩ := hb
 rcases h4 with ⟨_, rfl⟩ | ⟨hv, cs, e, fz, h5, h6, h7, h8, h9⟩
 · exact .par sz [] _ (fun _ _ => undef) h2 (fun h => absurd h (Nat.lt_irrefl _)) (by simp) (by simp) (by simp)
 · have hlt : bi.b < w.heap.size := (Array.getElem?_eq_some_iff.1 h5).1
   refine .par sz rows _ (fun x y => cs.getD (x * sz + y) undef) h2 (fun _ => ⟨hlt, hA hv⟩) h3 (fun x row y p hx hy => ⟨?_, (h9 x row y p hx hy).2⟩) (fun x row y p hx hy => ((h9 x row y p hx hy).1).mono had)
   rw [Addr.add_lit, Nat.zero_add]
   refine getD_cell h5 ?_
   have hr := h3 _ row hx
   have hy' : y < sz := by have := (List.getElem?_eq_some_iff.1 hy).1; omega
   have hxl : x < rows.length := (List.getElem?_eq_some_iff.1 hx).1
   have : x * sz + sz ≤ rows.length * sz := by
     rw [← Nat.succ_mul]; exact Nat.mul_le_mul_right _ hxl
   omega
theorem PR_of_box {w : World} {A A' : Nat → Prop} {β : BM} {bi : BI} {cs : List AV} {ps : List PV} (hb : BOK w A β bi (.box cs)) (had : Ad w A w A') (hA : ¬ A' bi.b) (hp : purL cs = some ps) (j : Nat) :
   PR w A' (.ptr (dropPV j ps)) (.pointer (some ⟨bi.b, 0 * bi.sz + j, none⟩)) := by
 obtain ⟨hv, cv, e, fz, h2, h3, h4, h5, h6⟩ := hb
 have hlt : bi.b < w.heap.size := (Array.getElem?_eq_some_iff.1 h2).1
 have hcs := purL_eq hp
 rw [dropPV_eq]
 refine .ptr _ _ (fun y => cv.getD (j + y) undef) (fun _ => ⟨hlt, hA⟩) (fun y p hy => ?_) (fun y p hy => ?_)
 · rw [List.getElem?_drop] at hy
   have hc : cs[j + y]? = some (.pure p) := by rw [hcs, List.getElem?_map, hy]; rfl
   obtain ⟨g1, g2⟩ := h6 _ _ hc
   have hy2 : j + y < cv.size := by have := (List.getElem?_eq_some_iff.1 hc).1; omega
   refine ⟨?_, g2⟩
   rw [Addr.add_lit]
   have e1 : 0 * bi.sz + j + y = j + y := by omega
   rw [e1]
   exact getD_cell h2 hy2
 · rw [List.getElem?_drop] at hy
   have hc : cs[j + y]? = some (.pure p) := by rw [hcs, List.getElem?_map, hy]; rfl
   obtain ⟨g1, g2⟩ := h6 _ _ hc
   cases g1 with
   | pure _ _ hq => exact hq.mono had
theorem AR.toPV {w : World} {A A' : Nat → Prop} {β : BM} {B : Nat → Option Blk} (had : Ad w A w A') (hB : ∀ k, BO w A β (β k) (B k))
   {p : AV} {v : Value} (hp : AR w A β p v) : (∀ k ∈ p.keys, ∀ bi, β k = some bi → bi.virt = false → ¬ A' bi.b) → ∀ {q : PV}, Avc.toPV B p = some q → PR w A' q v := by
 induction hp with
 | junk v => intro _ q h; simp [Avc.toPV] at h
 | gh i t v => intro _ q h; simp [Avc.toPV] at h
 | mp k bi hb => intro _ q h; simp [Avc.toPV] at h
 | mpDead k v hb => intro _ q h; simp [Avc.toPV] at h
 | pure p v hp => intro _ q h; simp only [Avc.toPV, Option.some.injEq] at h; subst h; exact hp.mono had
 | loc k i j bi hb =>
   intro hA q h
   have hk := hB k
   rw [hb] at hk
   cases i with
   | succ i => simp only [Avc.toPV] at h; cases h
   | zero =>
   simp only [Avc.toPV] at h
   split at h
   · rename_i cs hs
     rw [hs] at hk
     split at h
     · rename_i ps hps
       cases h
       exact PR_of_box hk had (hA k (by simp [AV.keys]) bi hb hk.1) hps j
     · cases h
   · rename_i sz rows hs
     rw [hs] at hk
     split at h
     · cases h
       have := PR_of_arr (β := β) hk had (hA k (by simp [AV.keys]) bi hb)
       simpa using this
     · cases h
   · cases h
 | locDead k i j v hb =>
   intro hA q h
   have hk := hB k
   rw [hb] at hk
   cases i with
   | succ i => simp only [Avc.toPV] at h; cases h
   | zero =>
   simp only [Avc.toPV] at h
   split at h
   · rename_i cs hs
     rw [hs] at hk
     exact hk.elim
   · rename_i sz rows hs
     rw [hs] at hk
     exact hk.elim
   · cases h
 | lsl k i n bi cap hb hv hn hc hi hm =>
   intro hA q h
   have hk := hB k
   rw [hb] at hk
   simp only [Avc.toPV] at h
   split at h
   · rename_i sz rows hs
     rw [hs] at hk
     cases h
     exact PR_of_row (β := β) hk hv had (hA k (by simp [AV.keys]) bi hb hv) hn hi hm
   · cases h
 | lslV k i bi a hb hi =>
   intro _ q h
   have hk := hB k
   rw [hb] at hk
   simp only [Avc.toPV] at h
   split at h
   · rename_i sz rows hs
     rw [hs] at hk
     cases h
     rw [List.take_zero]
     cases a with
     | none => exact .slnil sz
     | some a =>
       exact PR.sl sz [] a 0 (fun _ _ => undef) (Nat.le_refl _) (Nat.zero_le _) hk.2.1 (fun h => absurd h (Nat.lt_irrefl _)) (by simp) (by simp) (by simp)
   · cases h
 | lslDead k i n v hb =>
   intro _ q h
   have hk := hB k
   rw [hb] at hk
   simp only [Avc.toPV] at h
   split at h
   · rename_i sz rows hs
     rw [hs] at hk
     exact hk.elim
   · cases h
 | agg cs vs hl _ ih =>
   intro hA q h
   simp only [Avc.toPV, Option.map_eq_some_iff] at h
   obtain ⟨ps, hps, rfl⟩ := h
   obtain ⟨h1, h2⟩ := toPVL_some hps
   refine .agg ps vs (by omega) fun j p hj => ?_
   obtain ⟨a, ha, hap⟩ := h2 j p hj
   exact ih j a ha (fun k hk => hA k (by simp only [AV.keys]; exact AV.mem_keysL.2 ⟨a, List.mem_of_getElem? ha, hk⟩)) hap
 | fn f cs vs hl _ ih =>
   intro hA q h
   simp only [Avc.toPV, Option.map_eq_some_iff] at h
   obtain ⟨ps, hps, rfl⟩ := h
   obtain ⟨h1, h2⟩ := toPVL_some hps
   refine .fn f ps vs ⟨by have := hl.1; omega, hl.2⟩ fun j p hj => ?_
   obtain ⟨a, ha, hap⟩ := h2 j p hj
   exact ih j a ha (fun k hk => hA k (by simp only [AV.keys]; exact AV.mem_keysL.2 ⟨a, List.mem_of_getElem? ha, hk⟩)) hap
 | bm f g p v he _ ih =>
   intro hA q h
   simp only [Avc.toPV, Avc.toPVL, Option.map_eq_some_iff, Option.bind_eq_some_iff] at h
   obtain ⟨ps, ⟨q, hq, l, hl, rfl⟩, rfl⟩ := h
   cases hl
   exact .bm f g q v he (ih (fun k hk => hA k (by simp only [AV.keys]; exact AV.mem_keysL.2 ⟨p, by simp, hk⟩)) hq)
 | tup cs vs hl _ ih =>
   intro hA q h
   simp only [Avc.toPV, Option.map_eq_some_iff] at h
   obtain ⟨ps, hps, rfl⟩ := h
   obtain ⟨h1, h2⟩ := toPVL_some hps
   refine .tup ps vs (by omega) fun j p hj => ?_
   obtain ⟨a, ha, hap⟩ := h2 j p hj
   exact ih j a ha (fun k hk => hA k (by simp only [AV.keys]; exact AV.mem_keysL.2 ⟨a, List.mem_of_getElem? ha, hk⟩)) hap
theorem AR.toPV0 {w : World} {A : Nat → Prop} {β : BM} {p : AV} {v : Value} (hp : AR w A β p v) : ∀ {q : PV}, Avc.toPV (fun _ => none) p = some q → PR w A q v := by
 induction hp with
 | junk v => intro q h; simp [Avc.toPV] at h
 | gh i t v => intro q h; simp [Avc.toPV] at h
 | mp k bi hb => intro q h; simp [Avc.toPV] at h
 | mpDead k v hb => intro q h; simp [Avc.toPV] at h
 | pure p v hp => intro q h; simp only [Avc.toPV, Option.some.injEq] at h; subst h; exact hp
 | loc k i j bi hb => intro q h; cases i <;> (simp only [Avc.toPV] at h; cases h)
 | locDead k i j v hb => intro q h; cases i <;> (simp only [Avc.toPV] at h; cases h)
 | lsl k i n bi cap hb hv hn hc hi hm => intro q h; simp [Avc.toPV] at h
 | lslV k i bi a hb hi => intro q h; simp [Avc.toPV] at h
 | lslDead k i n v hb => intro q h; simp [Avc.toPV] at h
 | agg cs vs hl _ ih =>
   intro q h
   simp only [Avc.toPV, Option.map_eq_some_iff] at h
   obtain ⟨ps, hps, rfl⟩ := h
   obtain ⟨h1, h2⟩ := toPVL_some hps
   exact .agg _ _ (by omega) fun j p hj => by obtain ⟨x, hx, hxp⟩ := h2 j p hj; exact ih j x hx hxp
 | fn f cs vs hl _ ih =>
   intro q h
   simp only [Avc.toPV, Option.map_eq_some_iff] at h
   obtain ⟨ps, hps, rfl⟩ := h
   obtain ⟨h1, h2⟩ := toPVL_some hps
   exact .fn _ _ _ ⟨by have := hl.1; omega, hl.2⟩ fun j p hj => by obtain ⟨x, hx, hxp⟩ := h2 j p hj; exact ih j x hx hxp
 | bm f g p v he _ ih =>
   intro q h
   simp only [Avc.toPV, Avc.toPVL, Option.map_eq_some_iff, Option.bind_eq_some_iff] at h
   obtain ⟨ps, ⟨q, hq, l, hl, rfl⟩, rfl⟩ := h
   cases hl
   exact .bm f g q v he (ih hq)
 | tup cs vs hl _ ih =>
   intro q h
   simp only [Avc.toPV, Option.map_eq_some_iff] at h
   obtain ⟨ps, hps, rfl⟩ := h
   obtain ⟨h1, h2⟩ := toPVL_some hps
   exact .tup _ _ (by omega) fun j p hj => by obtain ⟨x, hx, hxp⟩ := h2 j p hj; exact ih j x hx hxp
theorem Rl.ad_X {Γ : Ctx} {s : St} {tm : Array Value} {w : World} {β : BM} (_ : Rl Γ s tm w β) : Ad w (Av Γ.X β) w Γ.X := ⟨Nat.le_refl _, fun _ _ h => ⟨rfl, fun hx => h (.inl hx)⟩⟩
theorem Rl.out {Γ : Ctx} {s : St} {tm : Array Value} {w : World} {β : BM} (h : Rl Γ s tm w β) {p : AV} {v : Value} (hp : AR w (Av Γ.X β) β p v) {q : PV} (hq : toPV s.blk p = some q) : PR w Γ.X q v :=
 AR.toPV h.ad_X h.blks hp (fun k _ => h.notX k) hq
end Go.Avc
/- What each operation does to an abstract state (first part: values, variables, addresses, loads and stores), and that it does so in the model. Conditions: none. -/
namespace Go.Avc
open Go.RowKit
inductive BAct where
 | set (k : Nat) (b : Blk)
 | new (k : Nat) (b : Blk)
 | kill (k : Nat)
 | frz (k : Nat)
abbrev Kont := AV → List BAct → Prop
mutual
def AV.fz (k : Nat) (c : Blk) : AV → AV
 | .lsl k' i n => match c with
   | .row sz rows => bif Nat.beq k' k then .pure (.sl sz ((rows.drop i).take n)) else .lsl k' i n
   | .box _ => .lsl k' i n
   | .mp _ => .lsl k' i n
 | .loc k' i j => match c with
   | .row _ _ => .loc k' i j
   | .mp _ => .loc k' i j
   | .box cs => match i with
     | 0 => bif Nat.beq k' k then (match purL cs with
       | some ps => .pure (.ptr (dropPV j ps))
       | none => .loc k' 0 j) else .loc k' 0 j
     | i + 1 => .loc k' (i + 1) j
 | .agg cs => .agg (AV.fzL k c cs)
 | .fn f cs => .fn f (AV.fzL k c cs)
 | .tup cs => .tup (AV.fzL k c cs)
 | .junk => .junk
 | .pure p => .pure p
 | .gh i t => .gh i t
 | .mp k' => .mp k'
def AV.fzL (k : Nat) (c : Blk) : List AV → List AV
 | [] => []
 | a :: l => a.fz k c :: AV.fzL k c l
end
theorem AV.fzL_eq (k : Nat) (c : Blk) : ∀ l : List AV, AV.fzL k c l = l.map (AV.fz k c)
 | [] => rfl
 | a :: l => by simp only [AV.fzL, List.map_cons, AV.fzL_eq k c l]
def Blk.fz (k : Nat) (c : Blk) : Blk → Blk
 | .box cs => .box (AV.fzL k c cs)
 | .row sz rows => .row sz rows
 | .mp es => .mp es
def St.frzW (s : St) (k : Nat) (c : Blk) : St := { env := s.env.map fun x => (x.1, x.2.fz k c), blks := (k, none) :: s.blks.map fun x => (x.1, x.2.map (Blk.fz k c)), used := s.used }
def St.freeze (s : St) (k : Nat) : St :=
 match s.blk k with
 | some (.row sz rows) => s.frzW k (.row sz rows)
 | some (.box cs) => match purL cs with
   | some _ => s.frzW k (.box cs)
   | none => s
 | _ => s
def Blk.fzOK : Blk → Prop
 | .row _ _ => True
 | .box cs => ∃ ps, purL cs = some ps
 | .mp _ => False
def FzOK (B : Nat → Option Blk) (k : Nat) : Prop := ∃ c, B k = some c ∧ c.fzOK
theorem FzOK.row {B : Nat → Option Blk} {k sz : Nat} {rows : List (List PV)} (h : B k = some (.row sz rows)) : FzOK B k := ⟨_, h, trivial⟩
theorem FzOK.box {B : Nat → Option Blk} {k : Nat} {cs : List AV} {ps : List PV} (h : B k = some (.box cs)) (hp : purL cs = some ps) : FzOK B k := ⟨_, h, ps, hp⟩
def St.act (s : St) : BAct → St
 | .set k b => s.set k b
 | .new k b => s.new k b
 | .kill k => s.kill k
 | .frz k => s.freeze k
def St.acts (s : St) (l : List BAct) : St := l.foldl St.act s
theorem lk_map {α β : Type} (f : α → β) : ∀ (l : List (Nat × α)) (t : Nat), lk (l.map fun x => (x.1, f x.2)) t = (lk l t).map f
 | [], t => rfl
 | (d, v) :: l, t => by
   rw [List.map_cons, lk_cons, lk_cons, lk_map f l t]
   split <;> rfl
mutual
theorem AV.keys_fz (k : Nat) (c : Blk) : ∀ (v : AV) (x : Nat), x ∈ (v.fz k c).keys → x ∈ v.keys
 | .junk, x, h => h
 | .gh _ _, x, h => h
 | .mp _, x, h => h
 | .pure p, x, h => h
 | .loc k' i j, x, h => by
   unfold AV.fz at h
   cases c with
   | row sz rows => exact h
   | mp es => exact h
   | box cs =>
     cases i with
     | succ i => exact h
     | zero =>
       simp only [beq_eq_decide] at h
       by_cases e : k' = k
       · simp only [e, decide_true, cond_true] at h
         split at h
         · simp [AV.keys] at h
         · simpa [AV.keys, e] using h
       · simpa [e] using h
 | .lsl k' i n, x, h => by
   unfold AV.fz at h
   cases c with
   | row sz rows =>
     simp only [beq_eq_decide] at h
     by_cases e : k' = k
     · simp [e, AV.keys] at h
     · simpa [e] using h
   | box cs => exact h
   | mp es => exact h
 | .agg cs, x, h => by
   simp only [AV.fz, AV.keys] at h ⊢
   exact AV.keysL_fz k c cs x h
 | .fn f cs, x, h => by
   simp only [AV.fz, AV.keys] at h ⊢
   exact AV.keysL_fz k c cs x h
 | .tup cs, x, h => by
   simp only [AV.fz, AV.keys] at h ⊢
   exact AV.keysL_fz k c cs x h
theorem AV.keysL_fz (k : Nat) (c : Blk) : ∀ (l : List AV) (x : Nat), x ∈ AV.keysL (AV.fzL k c l) → x ∈ AV.keysL l
 | [], x, h => h
 | a :: l, x, h => by
   simp only [AV.fzL, AV.keysL, List.mem_append] at h ⊢
   rcases h with h | h
   · exact .inl (AV.keys_fz k c a x h)
   · exact .inr (AV.keysL_fz k c l x h)
end
theorem Rl.freezeW {Γ : Ctx} {s : St} {tm : Array Value} {w : World} {β : BM} (h : Rl Γ s tm w β) {k : Nat} (hfx : k ∉ Γ.fx) {c : Blk} (hs : s.blk k = some c) (hc : c.fzOK) :
   Rl Γ (s.frzW k c) tm w (fun j => if j = k then none else β j) ∧ ∀ {p : AV} {v : Value}, AR w (Av Γ.X β) β p v → AR w (Av Γ.X (fun j => if j = k then none else β j)) (fun j => if j = k then none else β j) (p.fz k c) v := by
 unfold St.frzW
 have hbk := h.blks k
 rw [hs] at hbk
 cases hβk : β k with
 | none => rw [hβk] at hbk; exact hbk.elim
 | some bi =>
 rw [hβk] at hbk
 generalize hβ' : (fun j => if j = k then none else β j) = β'
 have e1 : β' k = none := by rw [← hβ']; simp
 have e2 : ∀ j, j ≠ k → β' j = β j := fun j hj => by rw [← hβ']; simp [hj]
 have e3 : ∀ j bj, β' j = some bj → j ≠ k ∧ β j = some bj := fun j bj hj => by
   by_cases e : j = k
   · subst e; rw [e1] at hj; cases hj
   · exact ⟨e, by rw [← e2 j e]; exact hj⟩
 have had : Ad w (Av Γ.X β) w (Av Γ.X β') := ⟨Nat.le_refl _, fun b _ hA => ⟨rfl, fun hA' => hA (by
   rcases hA' with hx | ⟨j, bj, hj, hv, hb⟩
   · exact .inl hx
   · exact .inr ⟨j, bj, (e3 j bj hj).2, hv, hb⟩)⟩⟩
 have hnA : bi.virt = false → ¬ Av Γ.X β' bi.b := by
   rintro hv (hx | ⟨j, bj, hj, hv', hb⟩)
   · exact h.notX k bi hβk hv hx
   · obtain ⟨hne, hj'⟩ := e3 j bj hj
     exact hne (h.inj j k bj bi hj' hβk hv' hv hb)
 have arm : ∀ {p : AV} {v : Value}, AR w (Av Γ.X β) β p v → AR w (Av Γ.X β') β' (p.fz k c) v := by
   intro p v hp
   induction hp with
   | junk v => exact .junk v
   | gh i t v => exact .gh i t v
   | pure p v hp => exact .pure p v (hp.mono had)
   | loc k' i j bi' hb =>
     have dead : AR w (Av Γ.X β') β' (.loc k' i j) (.pointer (some ⟨bi'.b, i * bi'.sz + j, none⟩)) := by
       by_cases e : k' = k
       · subst e; exact .locDead _ _ _ _ e1
       · exact .loc k' i j bi' ((e2 k' e).trans hb)
     unfold AV.fz
     cases c with
     | row sz rows => exact dead
     | mp es => exact dead
     | box cs =>
       cases i with
       | succ i => exact dead
       | zero =>
         simp only [beq_eq_decide]
         by_cases e : k' = k
         · subst e
           rw [hβk] at hb; cases hb
           obtain ⟨ps, hps⟩ := hc
           simp only [decide_true, cond_true, hps]
           exact .pure _ _ (PR_of_box hbk had (hnA hbk.1) hps j)
         · simp only [e, decide_false, cond_false]
           exact dead
   | locDead k' i j v hb =>
     have dead : AR w (Av Γ.X β') β' (.loc k' i j) v := by
       by_cases e : k' = k
       · subst e; exact .locDead _ _ _ _ e1
       · exact .locDead k' i j v ((e2 k' e).trans hb)
     have e : ¬ k' = k := fun e => by subst e; rw [hβk] at hb; cases hb
     unfold AV.fz
     cases c with
     | row sz rows => exact dead
     | mp es => exact dead
     | box cs =>
       cases i with
       | succ i => exact dead
       | zero =>
         simp only [beq_eq_decide, e, decide_false, cond_false]
         exact dead
   | lsl k' i n bi' cap hb hv hn hc' hi hm =>
     unfold AV.fz
     cases c with
     | mp es =>
       by_cases e : k' = k
       · subst e; exact .lslDead _ _ _ _ e1
       · exact .lsl k' i n bi' cap ((e2 k' e).trans hb) hv hn hc' hi hm
     | box cs =>
       by_cases e : k' = k
       · subst e; exact .lslDead _ _ _ _ e1
       · exact .lsl k' i n bi' cap ((e2 k' e).trans hb) hv hn hc' hi hm
     | row sz rows =>
     simp only [beq_eq_decide]
     by_cases e : k' = k
     · subst e
       rw [hβk] at hb; cases hb
       simp only [decide_true, cond_true]
       exact .pure _ _ (PR_of_row (β := β) hbk hv had (hnA hv) hn hi hm)
     · simp only [e, decide_false, cond_false]
       exact .lsl k' i n bi' cap ((e2 k' e).trans hb) hv hn hc' hi hm
   | lslV k' i bi' a hb hi =>
     unfold AV.fz
     cases c with
     | mp es =>
       by_cases e : k' = k
       · subst e; exact .lslDead _ _ _ _ e1
       · exact .lslV k' i bi' a ((e2 k' e).trans hb) hi
     | box cs =>
       by_cases e : k' = k
       · subst e; exact .lslDead _ _ _ _ e1
       · exact .lslV k' i bi' a ((e2 k' e).trans hb) hi
     | row sz rows =>
     simp only [beq_eq_decide]
     by_cases e : k' = k
     · subst e
       rw [hβk] at hb; cases hb
       simp only [decide_true, cond_true, List.take_zero]
       refine .pure _ _ ?_
       cases a with
       | none => exact .slnil sz
       | some a => exact PR.sl sz [] a 0 (fun _ _ => undef) (Nat.le_refl _) (Nat.zero_le _) hbk.2.1 (fun h => absurd h (Nat.lt_irrefl _)) (by simp) (by simp) (by simp)
     · simp only [e, decide_false, cond_false]
       exact .lslV k' i bi' a ((e2 k' e).trans hb) hi
   | lslDead k' i n v hb =>
     have e : ¬ k' = k := fun e => by subst e; rw [hβk] at hb; cases hb
     unfold AV.fz
     cases c with
     | box cs => exact .lslDead k' i n v ((e2 k' e).trans hb)
     | mp es => exact .lslDead k' i n v ((e2 k' e).trans hb)
     | row sz rows =>
     simp only [beq_eq_decide, e, decide_false, cond_false]
     exact .lslDead k' i n v ((e2 k' e).trans hb)
   | agg cs vs hl _ ih =>
     unfold AV.fz
     rw [AV.fzL_eq]
     refine .agg _ vs (by simpa using hl) fun j p hj => ?_
     rw [List.getElem?_map, Option.map_eq_some_iff] at hj
     obtain ⟨q, hq, rfl⟩ := hj
     exact ih j q hq
   | fn f cs vs hl _ ih =>
     unfold AV.fz
     rw [AV.fzL_eq]
     refine .fn f _ vs ⟨by simpa using hl.1, hl.2⟩ fun j p hj => ?_
     rw [List.getElem?_map, Option.map_eq_some_iff] at hj
     obtain ⟨q, hq, rfl⟩ := hj
     exact ih j q hq
   | mp k' bi' hb =>
     unfold AV.fz
     by_cases e : k' = k
     · subst e; exact .mpDead _ _ e1
     · exact .mp k' bi' ((e2 k' e).trans hb)
   | mpDead k' v hb =>
     unfold AV.fz
     by_cases e : k' = k
     · subst e; exact .mpDead _ _ e1
     · exact .mpDead k' v ((e2 k' e).trans hb)
   | bm f g p v he _ ih =>
     unfold AV.fz
     rw [AV.fzL_eq]
     exact .bm f g _ v he ih
   | tup cs vs hl _ ih =>
     unfold AV.fz
     rw [AV.fzL_eq]
     refine .tup _ vs (by simpa using hl) fun j p hj => ?_
     rw [List.getElem?_map, Option.map_eq_some_iff] at hj
     obtain ⟨q, hq, rfl⟩ := hj
     exact ih j q hq
 have hget : ∀ t, St.get { env := s.env.map fun x => (x.1, x.2.fz k c), blks := (k, none) :: s.blks.map fun x => (x.1, x.2.map (Blk.fz k c)), used := s.used } t = (s.get t).fz k c := by
   intro t
   simp only [St.get, lk_map (AV.fz k c)]
   cases lk s.env t <;> rfl
 have hblk : ∀ j, St.blk { env := s.env.map fun x => (x.1, x.2.fz k c), blks := (k, none) :: s.blks.map fun x => (x.1, x.2.map (Blk.fz k c)), used := s.used } j = if k = j then none else (s.blk j).map (Blk.fz k c) := by
   intro j
   simp only [St.blk, lk_cons]
   by_cases e : k = j
   · simp [e]
   · simp only [e, if_false]
     rw [lk_map (Option.map (Blk.fz k c))]
     cases lk s.blks j with
     | none => rfl
     | some x => cases x <;> rfl
 refine ⟨?_, fun hp => arm hp⟩
 · refine
   { size := h.size
     slots := fun t => by rw [hget]; exact arm (h.slots t)
     blks := fun j => ?_
     inj := fun j j' bj bj' hj hj' => h.inj j j' bj bj' (e3 j bj hj).2 (e3 j' bj' hj').2
     lt := fun j bj hj => h.lt j bj (e3 j bj hj).2
     notX := fun j bj hj => h.notX j bj (e3 j bj hj).2
     own := fun j bj hj => h.own j bj (e3 j bj hj).2
     fixd := fun j hj => (e2 j fun e => hfx (e ▸ hj)).trans (h.fixd j hj)
     used1 := fun t x hx => by rw [hget] at hx; exact h.used1 t x (AV.keys_fz _ _ _ x hx)
     used2 := fun j b hj => ?_
     keep := h.keep
     Xlt := h.Xlt
     glob := h.glob.mono had }
   · rw [hblk]
     by_cases e : k = j
     · subst e; rw [if_pos rfl, e1]; trivial
     · rw [if_neg e, e2 j (Ne.symm e)]
       have hb := h.blks j
       cases hs' : s.blk j with
       | none =>
         rw [hs'] at hb
         cases hbj : β j with
         | none => trivial
         | some x => rw [hbj] at hb; exact hb.elim
       | some blk' =>
         rw [hs'] at hb
         cases hbj : β j with
         | none => rw [hbj] at hb; exact hb.elim
         | some x =>
           rw [hbj] at hb
           cases blk' with
           | box cells =>
             obtain ⟨h1, cs, e', fz, h2, h3, h4, h5, h6⟩ := hb
             refine ⟨h1, cs, e', fz, h2, h3, ?_, h5, fun j av hj => ?_⟩
             · rw [h4, AV.fzL_eq]; simp
             · rw [AV.fzL_eq, List.getElem?_map, Option.map_eq_some_iff] at hj
               obtain ⟨q, hq, rfl⟩ := hj
               exact ⟨arm (h6 j q hq).1, (h6 j q hq).2⟩
           | row sz' rows' =>
             refine BOK.mono (β := β) (β' := β') (blk := .row sz' rows') had hb (fun y hy => ?_) fun _ => rfl
             simp only [Blk.keys, List.not_mem_nil] at hy
           | mp es =>
             refine BOK.mono (β := β) (β' := β') (blk := .mp es) had hb (fun y hy => ?_) fun _ => rfl
             simp only [Blk.keys, List.not_mem_nil] at hy
   · rw [hblk] at hj
     by_cases e : k = j
     · subst e; rw [if_pos rfl] at hj; cases hj
     · rw [if_neg e, Option.map_eq_some_iff] at hj
       obtain ⟨b', hb', rfl⟩ := hj
       refine ⟨(h.used2 j b' hb').1, fun x hx => (h.used2 j b' hb').2 x ?_⟩
       cases b' with
       | box cells => exact AV.keysL_fz k c cells x hx
       | row _ _ => exact hx
       | mp _ => exact hx
theorem freeze_ok {s : St} {k : Nat} {c : Blk} (hs : s.blk k = some c) (hc : c.fzOK) : s.freeze k = s.frzW k c := by
 unfold St.freeze
 rw [hs]
 cases c with
 | row sz rows => rfl
 | mp es => exact hc.elim
 | box cs => obtain ⟨ps, hps⟩ := hc; simp only [hps]
theorem freeze_other {s : St} {k : Nat} (hs : ¬ FzOK s.blk k) : s.freeze k = s := by
 unfold St.freeze
 split
 · rename_i sz rows h
   exact absurd (FzOK.row h) hs
 · rename_i cs h
   split
   · rename_i ps hps
     exact absurd (FzOK.box h hps) hs
   · rfl
 · rfl
theorem Rl.freeze {Γ : Ctx} {s : St} {tm : Array Value} {w : World} {β : BM} (h : Rl Γ s tm w β) {k : Nat} (hfx : k ∉ Γ.fx) :
   ∃ β', Rl Γ (s.freeze k) tm w β' ∧ (∀ j, j ≠ k → β' j = β j) ∧ (∀ j bj, β' j = some bj → β j = some bj) ∧ (FzOK s.blk k → β' k = none) := by
 by_cases hs : FzOK s.blk k
 · obtain ⟨c, hs, hc⟩ := hs
   rw [freeze_ok hs hc]
   refine ⟨_, (h.freezeW hfx hs hc).1, fun j hj => by simp [hj], fun j bj hj => ?_, fun _ => by simp⟩
   by_cases e : j = k
   · simp [e] at hj
   · simpa [e] using hj
 · rw [freeze_other hs]
   exact ⟨β, h, fun _ _ => rfl, fun _ _ h => h, fun h => absurd h hs⟩
def bsel (t : Bool) (A B : Prop) : Prop := match t with
 | true => A
 | false => B
theorem bsel_intro {t : Bool} {A B : Prop} (h1 : t = true → A) (h2 : t = false → B) : bsel t A B := by
 cases t
 · exact h2 rfl
 · exact h1 rfl
theorem bsel_elim {t : Bool} {A B : Prop} (h : bsel t A B) : (t = true ∧ A) ∨ (t = false ∧ B) := by
 cases t
 · exact .inr ⟨rfl, h⟩
 · exact .inl ⟨rfl, h⟩
def Out (Γ : Ctx) (s : St) (tm : Array Value) (K : Kont) (r : Result Value) : Prop :=
 ∃ v acts u w' β', K v acts ∧ r = .ok u w' ∧ Rl Γ (s.acts acts) tm w' β' ∧ AR w' (Av Γ.X β') β' v u ∧ ∀ k ∈ v.keys, k ∈ (s.acts acts).used
theorem Out.same {Γ : Ctx} {s : St} {tm : Array Value} {w : World} {β : BM} (h : Rl Γ s tm w β) {K : Kont} {v : AV} {u : Value} (hK : K v []) {r : Result Value} (hr : r = .ok u w)
   (hv : AR w (Av Γ.X β) β v u) (hk : ∀ k ∈ v.keys, k ∈ s.used) : Out Γ s tm K r := ⟨v, [], u, w, β, hK, hr, h, hv, hk⟩
def OutS (Γ : Ctx) (s : St) (w : World) (β : BM) (K : Kont) (r : Result Value) : Prop :=
 ∃ v u, K v [] ∧ r = .ok u w ∧ AR w (Av Γ.X β) β v u ∧ ∀ k ∈ v.keys, k ∈ s.used
theorem OutS.same {Γ : Ctx} {s : St} {w : World} {β : BM} {K : Kont} {v : AV} {u : Value} (hK : K v []) {r : Result Value} (hr : r = .ok u w)
   (hv : AR w (Av Γ.X β) β v u) (hk : ∀ k ∈ v.keys, k ∈ s.used) : OutS Γ s w β K r := ⟨v, u, hK, hr, hv, hk⟩
theorem OutS.out {Γ : Ctx} {s : St} {tm : Array Value} {w : World} {β : BM} {K : Kont} {r : Result Value} (h : Rl Γ s tm w β) (ho : OutS Γ s w β K r) : Out Γ s tm K r := by
 obtain ⟨v, u, hK, hr, hv, hk⟩ := ho
 exact Out.same h hK hr hv hk
theorem Rl.live {Γ : Ctx} {s : St} {tm : Array Value} {w : World} {β : BM} (h : Rl Γ s tm w β) {k : Nat} {blk : Blk} (hs : s.blk k = some blk) : ∃ bi, β k = some bi ∧ BOK w (Av Γ.X β) β bi blk := by
 have hb := h.blks k
 rw [hs] at hb
 cases hβ : β k with
 | none => rw [hβ] at hb; exact hb.elim
 | some bi => rw [hβ] at hb; exact ⟨bi, rfl, hb⟩
theorem AR.loc_inv {w : World} {A : Nat → Prop} {β : BM} {k i j : Nat} {v : Value} {bi : BI} (h : AR w A β (.loc k i j) v) (hb : β k = some bi) : v = .pointer (some ⟨bi.b, i * bi.sz + j, none⟩) := by
 cases h with
 | loc _ _ _ bi' h' => rw [hb] at h'; cases h'; rfl
 | locDead _ _ _ _ h' => rw [hb] at h'; cases h'
def aggOf (P : Program) (t : TypeId) : Option Bool := match P.underlying t with
 | some (.struct _) => some true
 | some (.array _ _) => some true
 | some _ => some false
 | none => none
def szOf (P : Program) (t : TypeId) : Option Nat := (P.info? t).map (·.size)
def takeN {α : Type} : Nat → List α → Option (List α)
 | 0, _ => some []
 | _ + 1, [] => none
 | n + 1, a :: l => (takeN n l).map (a :: ·)
def dropN {α : Type} : Nat → List α → List α
 | 0, l => l
 | _ + 1, [] => []
 | n + 1, _ :: l => dropN n l
def nth {α : Type} : List α → Nat → Option α
 | [], _ => none
 | a :: _, 0 => some a
 | _ :: l, n + 1 => nth l n
theorem dropN_eq {α : Type} : ∀ (n : Nat) (l : List α), dropN n l = l.drop n
 | 0, l => rfl
 | n + 1, [] => rfl
 | n + 1, _ :: l => by simp [dropN, dropN_eq n l]
theorem nth_eq {α : Type} : ∀ (l : List α) (n : Nat), nth l n = l[n]?
 | [], n => by simp [nth]
 | a :: _, 0 => rfl
 | _ :: l, n + 1 => by simp [nth, nth_eq l n]
theorem takeN_eq {α : Type} : ∀ (n : Nat) (l r : List α), takeN n l = some r → n ≤ l.length ∧ r = l.take n
 | 0, l, r, h => by simp [takeN] at h; simp [h]
 | n + 1, [], r, h => by simp [takeN] at h
 | n + 1, a :: l, r, h => by
   simp only [takeN, Option.map_eq_some_iff] at h
   obtain ⟨q, hq, rfl⟩ := h
   obtain ⟨h1, h2⟩ := takeN_eq n l q hq
   exact ⟨by simp; omega, by simp [h2]⟩
def force (v : AV) (K : Kont) : Prop := match v with
 | .junk => K .junk []
 | .gh i t => K (.gh i t) []
 | .pure p => K (.pure p) []
 | .loc k i j => K (.loc k i j) []
 | .lsl k i n => K (.lsl k i n) []
 | .agg cs => K (.agg cs) []
 | .fn f cs => K (.fn f cs) []
 | .tup cs => K (.tup cs) []
 | .mp k => K (.mp k) []
theorem force_eq (v : AV) (K : Kont) : force v K = K v [] := by cases v <;> rfl
def forceC : List AV → (List AV → Prop) → Prop
 | [], C => C []
 | v :: l, C => force v fun v' _ => forceC l fun l' => C (v' :: l')
theorem forceC_eq : ∀ (l : List AV) (C : List AV → Prop), forceC l C = C l
 | [], _ => rfl
 | v :: l, C => by simp only [forceC, force_eq]; rw [forceC_eq l]
def getCells (P : Program) (t : TypeId) (cells : List AV) (j : Nat) (K : Kont) : Prop :=
 match aggOf P t with
 | some true => match szOf P t with
   | some n => match takeN n (dropN j cells) with
     | some cs => forceC cs fun cs => K (.agg cs) []
     | none => False
   | none => False
 | some false => match nth cells j with
   | some v => K v []
   | none => False
 | none => False
def pures (l : List PV) : List AV := l.map .pure
def arrOf (P : Program) (t : TypeId) : Bool := match P.underlying t with
 | some (.array _ e) => match P.underlying e with
   | some (.int _) => true
   | some .bool => true
   | some .string => true
   | some (.slice _) => true
   | _ => false
 | _ => false
def lessB (P : Program) (t : TypeId) (sz : Nat) : Bool := match szOf P t with
 | some n => Nat.blt n sz
 | none => false
def opLoad (P : Program) (t : TypeId) (x : AV) (blk : Nat → Option Blk) (K : Kont) : Prop :=
 match x with
 | .loc k i j => match blk k with
   | some (.box cells) => match i with
     | 0 => getCells P t cells j K
     | _ + 1 => False
   | some (.row sz rows) => match aggOf P t with
     | some true => match lessB P t sz with
       | true => ∃ row, rows[i]? = some row ∧ getCells P t (pures row) j K
       | false => (∃ row, rows[i]? = some row ∧ szOf P t = some sz ∧ j = 0 ∧ K (.agg (pures row)) []) ∨ (i = 0 ∧ j = 0 ∧ szOf P t = some (rows.length * sz) ∧ K (.pure (.agg rows.flatten)) [])
     | some false => ∃ row p, rows[i]? = some row ∧ row[j]? = some p ∧ K (.pure p) []
     | none => False
   | _ => False
 | .pure (.ptr cs) => match arrOf P t with
   | true => (szOf P t = some cs.length ∧ aggOf P t = some true ∧ K (.pure (.agg cs)) []) ∨ getCells P t (pures cs) 0 K
   | false => getCells P t (pures cs) 0 K
 | .pure (.par sz rows) => match aggOf P t with
   | some true => szOf P t = some (rows.length * sz) ∧ K (.pure (.agg rows.flatten)) []
   | _ => False
 | _ => False
def PV.one : PV → Bool
 | .val v => v.oneCell'
 | .sl _ _ => true
 | .ptr _ => true
 | .par _ _ => true
 | .fn _ _ => true
 | .mp _ _ => true
 | _ => false
def AV.one (blk : Nat → Option Blk) : AV → Bool
 | .pure p => p.one
 | .loc k _ _ => (blk k).isSome
 | .lsl k _ _ => (blk k).isSome
 | .fn _ _ => true
 | .mp k => (blk k).isSome
 | _ => false
def allOne (blk : Nat → Option Blk) : List AV → Bool
 | [] => true
 | a :: l => bif a.one blk then allOne blk l else false
def cellsOf : AV → List AV
 | .agg cs => cs
 | .pure (.agg cs) => pures cs
 | v => [v]
def singles (l : List PV) : List (List PV) := l.map fun p => [p]
def freshIn (d : Nat) : List Nat → Bool
 | [] => true
 | k :: l => bif Nat.beq d k then false else freshIn d l
def opBox (P : Program) (t : TypeId) (x : AV) (d : Nat) (blk : Nat → Option Blk) (K : Kont) : Prop :=
 match allOne blk (cellsOf x) with
 | false => False
 | true => match arrOf P t with
   | false => forceC (cellsOf x) fun cs => K (.loc d 0 0) [.new d (.box cs)]
   | true => match toPVL (fun _ => none) (cellsOf x) with
     | some ps => K (.loc d 0 0) [.new d (.row 1 (singles ps))]
     | none => False
def opAlloc (P : Program) (t : TypeId) (d : Nat) (K : Kont) : Prop :=
 match P.info? t with
 | some i => match i.zero with
   | some z => match arrOf P t with
     | false => match allOne (fun _ => none) (z.cells.toList.map fun v => .pure (.val v)) with
       | true => forceC (z.cells.toList.map fun v => .pure (.val v)) fun cs => K (.loc d 0 0) [.new d (.box cs)]
       | false => False
     | true => match allOne (fun _ => none) (z.cells.toList.map fun v => .pure (.val v)) with
       | true => K (.loc d 0 0) [.new d (.row 1 (singles (z.cells.toList.map .val)))]
       | false => False
   | none => False
 | none => False
def overlay {α : Type} : List α → List α → Option (List α)
 | l, [] => some l
 | [], _ :: _ => none
 | _ :: l, v :: vs => (overlay l vs).map (v :: ·)
def splice {α : Type} : Nat → List α → List α → Option (List α)
 | 0, l, vs => overlay l vs
 | _ + 1, [], _ => none
 | n + 1, a :: l, vs => (splice n l vs).map (a :: ·)
def frzs (l : List Nat) : List BAct := l.map .frz
def kills (l : List Nat) : List BAct := l.map .kill
def fk (md : Bool) (l : List Nat) : List BAct := match md with
 | true => kills l
 | false => frzs l
def disj : List Nat → List Nat → Bool
 | [], _ => true
 | k :: l, m => bif freshIn k m then disj l m else false
def partOf (sz : Nat) (ps : List PV) : Option PV := match Nat.blt 1 sz with
 | true => match ps with
   | [p] => some p
   | _ => none
 | false => none
theorem partOf_none {sz : Nat} {ps : List PV} (h : ps.length = sz ∨ sz = 1) : partOf sz ps = none := by
 unfold partOf
 split
 · rename_i hb
   have hb : 1 < sz := by simpa [Nat.blt_eq] using hb
   split
   · simp at h; omega
   · rfl
 · rfl
theorem partOf_some {sz : Nat} {ps : List PV} {p : PV} (h : partOf sz ps = some p) : 1 < sz ∧ ps = [p] := by
 unfold partOf at h
 split at h
 · rename_i hb
   split at h
   · cases h; exact ⟨by simpa [Nat.blt_eq] using hb, rfl⟩
   · cases h
 · cases h
def opStore (md : Bool) (P : Program) (t : TypeId) (x v : AV) (blk : Nat → Option Blk) (fx : List Nat) (K : Kont) : Prop :=
 match x with
 | .loc k i j => match allOne blk (cellsOf v) with
   | false => False
   | true => szOf P t = some (cellsOf v).length ∧ match blk k with
     | some (.box cells) => match i with
       | 0 => match splice j cells (cellsOf v) with
         | some cells' => forceC cells' fun cs => K .junk [.set k (.box cs)]
         | none => False
       | _ + 1 => False
     | some (.row sz rows) => match toPVL blk (cellsOf v) with
       | some ps => match partOf sz ps with
         | some p => i < rows.length ∧ j < sz ∧ freshIn k (AV.keysL (cellsOf v)) = true ∧ disj (AV.keysL (cellsOf v)) fx = true ∧ ∃ rows', rows.set i ((rows.getD i []).set j p) = rows' ∧ K .junk (fk md (AV.keysL (cellsOf v)) ++ [.set k (.row sz rows')])
         | none => (ps.length = sz ∧ j = 0 ∧ i < rows.length ∧ freshIn k (AV.keysL (cellsOf v)) = true ∧ disj (AV.keysL (cellsOf v)) fx = true ∧ K .junk (fk md (AV.keysL (cellsOf v)) ++ [.set k (.row sz (rows.set i ps))])) ∨
           (sz = 1 ∧ i = 0 ∧ j = 0 ∧ ps.length = rows.length ∧ freshIn k (AV.keysL (cellsOf v)) = true ∧ disj (AV.keysL (cellsOf v)) fx = true ∧ K .junk (fk md (AV.keysL (cellsOf v)) ++ [.set k (.row sz (singles ps))]))
       | none => False
     | _ => False
 | _ => False
def arrV (P : Program) (t : TypeId) (v : AV) : Option (List PV) := match arrOf P t with
 | true => match v with
   | .pure (.agg ps) => some ps
   | _ => none
 | false => none
def onesB : List PV → Bool
 | [] => true
 | p :: l => bif p.one then onesB l else false
def opBoxA (P : Program) (t : TypeId) (x : AV) (d : Nat) (blk : Nat → Option Blk) (K : Kont) : Prop :=
 match arrV P t x with
 | some ps => onesB ps = true ∧ ∃ rows, singles ps = rows ∧ K (.loc d 0 0) [.new d (.row 1 rows)]
 | none => opBox P t x d blk K
def byteV (v : AV) : Option Int := match v with
 | .pure p => match p with
   | .val (.int .u8 n) => some n
   | _ => none
 | _ => none
def byteAt (x : AV) (blk : Nat → Option Blk) : Option (Nat × Nat × Nat × List (List PV)) := match x with
 | .loc k i j => match blk k with
   | some (.row sz rows) => match Nat.beq sz 1 with
     | true => some (k, i, j, rows)
     | false => none
   | _ => none
 | _ => none
def opStoreA (md : Bool) (P : Program) (t : TypeId) (x v : AV) (blk : Nat → Option Blk) (fx : List Nat) (K : Kont) : Prop :=
 match arrV P t v with
 | some ps => match x with
   | .loc k i j => match blk k with
     | some (.row sz rows) => (ps.length = sz ∧ j = 0 ∧ i < rows.length ∧ onesB ps = true ∧ szOf P t = some ps.length ∧ K .junk [.set k (.row sz (rows.set i ps))]) ∨
         (sz = 1 ∧ i = 0 ∧ j = 0 ∧ ps.length = rows.length ∧ onesB ps = true ∧ szOf P t = some ps.length ∧ ∃ rows', singles ps = rows' ∧ K .junk [.set k (.row sz rows')])
     | some (.box _) => opStore md P t x v blk fx K
     | _ => False
   | _ => False
 | none => match byteV v with
   | some n => match byteAt x blk with
     | some (k, i, j, rows) => szOf P t = some 1 ∧ j = 0 ∧ i < rows.length ∧ ∃ rows', rows.set i [.val (.int .u8 n)] = rows' ∧ K .junk [.set k (.row 1 rows')]
     | none => opStore md P t x v blk fx K
   | none => opStore md P t x v blk fx K
theorem byteV_some {v : AV} {n : Int} (h : byteV v = some n) : v = .pure (.val (.int .u8 n)) := by
 unfold byteV at h
 split at h
 · split at h
   · cases h; rfl
   · cases h
 · cases h
theorem byteAt_some {x : AV} {blk : Nat → Option Blk} {k i j : Nat} {rows : List (List PV)} (h : byteAt x blk = some (k, i, j, rows)) : x = .loc k i j ∧ blk k = some (.row 1 rows) := by
 unfold byteAt at h
 split at h
 · rename_i k' i' j'
   split at h
   · rename_i sz rows' hk
     split at h
     · rename_i hs
       cases h
       have := Nat.eq_of_beq_eq_true hs
       subst this
       exact ⟨rfl, hk⟩
     · cases h
   · cases h
 · cases h
theorem onesB_allOne {blk : Nat → Option Blk} : ∀ {l : List PV}, onesB l = true → allOne blk (pures l) = true
 | [], _ => rfl
 | p :: l, h => by
   simp only [onesB] at h
   simp only [pures, List.map_cons, allOne, AV.one]
   cases hp : p.one with
   | false => rw [hp] at h; cases h
   | true => rw [hp] at h; exact onesB_allOne (l := l) (by simpa using h)
theorem toPVL_pures {blk : Nat → Option Blk} : ∀ (l : List PV), toPVL blk (pures l) = some l
 | [] => rfl
 | p :: l => by
   have := toPVL_pures (blk := blk) l
   simp only [pures, List.map_cons, toPVL, toPV] at this ⊢
   rw [this]; rfl
theorem keysL_pures : ∀ (l : List PV), AV.keysL (pures l) = []
 | [] => rfl
 | p :: l => by
   have := keysL_pures l
   simp only [pures, List.map_cons, AV.keysL, AV.keys, List.nil_append] at this ⊢
   exact this
theorem arrV_some {P : Program} {t : TypeId} {v : AV} {ps : List PV} (h : arrV P t v = some ps) : arrOf P t = true ∧ v = .pure (.agg ps) := by
 unfold arrV at h
 split at h
 · split at h
   · cases h; exact ⟨by assumption, rfl⟩
   · cases h
 · cases h
theorem opBoxA_old {P : Program} {t : TypeId} {x : AV} {d : Nat} {blk : Nat → Option Blk} {K : Kont} (h : opBoxA P t x d blk K) : opBox P t x d blk K := by
 unfold opBoxA at h
 split at h
 · rename_i ps hps
   obtain ⟨ha, rfl⟩ := arrV_some hps
   obtain ⟨h1, rows, rfl, h⟩ := h
   unfold opBox
   simp only [cellsOf, onesB_allOne h1, ha, toPVL_pures]
   exact h
 · exact h
theorem opStoreA_old {md : Bool} {P : Program} {t : TypeId} {x v : AV} {blk : Nat → Option Blk} {fx : List Nat} {K : Kont} (h : opStoreA md P t x v blk fx K) : opStore md P t x v blk fx K := by
 unfold opStoreA at h
 split at h
 · rename_i ps hps
   obtain ⟨ha, rfl⟩ := arrV_some hps
   split at h
   · rename_i k i j
     split at h
     · rename_i sz rows hk
       unfold opStore
       have hl : (pures ps).length = ps.length := by simp [pures]
       have hf : fk md [] = [] := by cases md <;> rfl
       rcases h with ⟨a1, a2, a3, a4, a5, h⟩ | ⟨a1, a2, a3, a4, a5, a6, rows', rfl, h⟩
       · simp only [cellsOf, onesB_allOne a4, hk, toPVL_pures, keysL_pures, hl, hf, List.nil_append, partOf_none (.inl a1)]
         exact ⟨a5, .inl ⟨a1, a2, a3, rfl, rfl, h⟩⟩
       · simp only [cellsOf, onesB_allOne a5, hk, toPVL_pures, keysL_pures, hl, hf, List.nil_append, partOf_none (.inr a1)]
         exact ⟨a6, .inr ⟨a1, a2, a3, a4, rfl, rfl, h⟩⟩
     · exact h
     · exact h.elim
   · exact h.elim
 · split at h
   · rename_i n hn
     split at h
     · rename_i k i j rows ha
       obtain ⟨rfl, hk⟩ := byteAt_some ha
       rw [byteV_some hn]
       obtain ⟨h1, rfl, h3, rows', rfl, h⟩ := h
       have hf : fk md [] = [] := by cases md <;> rfl
       unfold opStore
       simp only [cellsOf, allOne, AV.one, PV.one, Value.oneCell', cond_true, hk, toPVL, toPV, Option.map_some, Option.bind_some, AV.keysL, AV.keys, List.nil_append, hf, freshIn, disj, List.length_singleton, partOf_none (.inr rfl)]
       exact ⟨h1, .inl ⟨trivial, trivial, h3, trivial, trivial, h⟩⟩
     · exact h
   · exact h
end Go.Avc
/- Loads, boxes, stores: what the operations of the first part do is what the model does. Conditions: none. -/
namespace Go.Avc
open Go.RowKit
theorem aggOf_some {P : Program} {t : TypeId} {b : Bool} (h : aggOf P t = some b) (w : World) : (isAgg t).run P w = .ok b w := by
 unfold aggOf at h
 cases hd : P.underlying t with
 | none => rw [hd] at h; cases h
 | some d =>
   rw [hd] at h
   simp only [isAgg, Sem.run_bind, run_underlying hd, Result.andThen_ok]
   cases d <;> simp_all <;> subst h <;> rfl
theorem run_sizeOf {P : Program} {t : TypeId} {n : Nat} (h : szOf P t = some n) (w : World) : (sizeOf t).run P w = .ok n w := by
 simp only [szOf, Option.map_eq_some_iff] at h
 obtain ⟨i, hi, rfl⟩ := h
 simp [sizeOf, typeInfo, hi]
theorem run_loadVar_agg {P : Program} {t : TypeId} {n : Nat} {w : World} {a : Addr} {f : Nat → Value} (ha : aggOf P t = some true) (hn : szOf P t = some n) (h : ∀ j, j < n → w.cell? (a.add j) = some (f j)) :
   (loadVar t a).run P w = .ok (.agg ((List.range n).map f).toArray) w := by
 simp only [loadVar, Sem.run_bind, aggOf_some ha, Result.andThen_ok, if_true, run_sizeOf hn, run_loadCells (P := P) w a n f h, Sem.run_pure]
theorem run_loadVar_one {P : Program} {t : TypeId} {w : World} {a : Addr} {v : Value} (ha : aggOf P t = some false) (h : w.cell? a = some v) :
   (loadVar t a).run P w = .ok v w := by
 simp [loadVar, aggOf_some ha, h]
section
variable {Γ : Ctx} {s : St} {tm : Array Value} {w : World} {β : BM} {P : Program} {K : Kont}
theorem getD_range (n : Nat) (f : Nat → Value) (j : Nat) (hj : j < n) : ((List.range n).map f).toArray.getD j undef = f j := by
 simp [Array.getD, hj]
theorem getCells_sound {t : TypeId} {cells : List AV} {j : Nat} (hg : getCells P t cells j K) {ad : Addr} {f : Nat → Value}
   (hc : ∀ i av, cells[j + i]? = some av → w.cell? (ad.add i) = some (f i) ∧ AR w (Av Γ.X β) β av (f i) ∧ ∀ k ∈ av.keys, k ∈ s.used) : OutS Γ s w β K ((loadVar t ad).run P w) := by
 unfold getCells at hg
 simp only [forceC_eq] at hg
 split at hg
 · rename_i ha
   split at hg
   · rename_i n hn
     split at hg
     · rename_i cs hcs
       obtain ⟨h1, rfl⟩ := takeN_eq _ _ _ hcs
       rw [dropN_eq] at h1 hg
       rw [List.length_drop] at h1
       have hcell : ∀ i, i < n → ∃ av, cells[j + i]? = some av := fun i hi => ⟨_, List.getElem?_eq_getElem (by omega)⟩
       refine OutS.same hg (run_loadVar_agg ha hn (f := f) fun i hi => ?_) ?_ ?_
       · obtain ⟨av, hav⟩ := hcell i hi
         exact (hc i av hav).1
       · refine .agg _ _ (by simp; omega) fun i p hp => ?_
         have hi : i < n := by
           have := (List.getElem?_eq_some_iff.1 hp).1
           simp at this; omega
         rw [getD_range _ _ _ hi]
         rw [List.getElem?_take, if_pos hi, List.getElem?_drop] at hp
         exact (hc i p hp).2.1
       · intro k hk
         simp only [AV.keys] at hk
         obtain ⟨a, ha', hka⟩ := AV.mem_keysL.1 hk
         obtain ⟨i, hi, hia⟩ := List.getElem_of_mem ha'
         have hp : ((cells.drop j).take n)[i]? = some a := by rw [List.getElem?_eq_getElem hi, hia]
         have hin : i < n := by simp at hi; omega
         rw [List.getElem?_take, if_pos hin, List.getElem?_drop] at hp
         exact (hc i a hp).2.2 k hka
     · exact hg.elim
   · exact hg.elim
 · rename_i ha
   split at hg
   · rename_i v hv
     rw [nth_eq] at hv
     obtain ⟨h1, h2, h3⟩ := hc 0 v (by simpa using hv)
     rw [Addr.add_zero'] at h1
     exact OutS.same hg (run_loadVar_one ha h1) h2 h3
   · exact hg.elim
 · exact hg.elim
theorem keys_pures (l : List PV) : AV.keysL (pures l) = [] := by
 induction l with
 | nil => rfl
 | cons p l ih => simp only [pures, List.map_cons, AV.keysL, AV.keys, List.nil_append]; exact ih
theorem pures_get {l : List PV} {j : Nat} {av : AV} (h : (pures l)[j]? = some av) : ∃ p, l[j]? = some p ∧ av = .pure p := by
 simp only [pures, List.getElem?_map, Option.map_eq_some_iff] at h
 obtain ⟨p, hp, rfl⟩ := h
 exact ⟨p, hp, rfl⟩
theorem flatten_get {sz : Nat} : ∀ {rows : List (List PV)} {x : Nat} {p : PV}, (∀ (i : Nat) (row : List PV), rows[i]? = some row → row.length = sz) → rows.flatten[x]? = some p →
   ∃ i row j, rows[i]? = some row ∧ row[j]? = some p ∧ x = i * sz + j
 | [], x, p, _, h => by simp at h
 | r :: rows, x, p, hl, h => by
   have h0 := hl 0 r (by simp)
   rw [List.flatten_cons, List.getElem?_append] at h
   split at h
   · exact ⟨0, r, x, by simp, h, by simp⟩
   · rename_i hx
     obtain ⟨i, row, j, h1, h2, h3⟩ := flatten_get (sz := sz) (fun i row hi => hl (i + 1) row (by simpa using hi)) h
     refine ⟨i + 1, row, j, by simpa using h1, h2, ?_⟩
     rw [Nat.add_mul]; omega
theorem flatten_len {sz : Nat} : ∀ {rows : List (List PV)}, (∀ (i : Nat) (row : List PV), rows[i]? = some row → row.length = sz) → rows.flatten.length = rows.length * sz
 | [], _ => by simp
 | r :: rows, hl => by
   have h0 := hl 0 r (by simp)
   have := flatten_len (sz := sz) (rows := rows) (fun i row hi => hl (i + 1) row (by simpa using hi))
   rw [List.flatten_cons, List.length_append, this, h0, List.length_cons, Nat.add_mul]; omega
theorem row_cell {bi : BI} {sz : Nat} {rows : List (List PV)} {A : Nat → Prop} (hb : BOK w A β bi (.row sz rows)) {i : Nat} {row : List PV} {j : Nat} {p : PV} (hi : rows[i]? = some row) (hj : row[j]? = some p) :
   ∃ u, w.cell? ⟨bi.b, i * bi.sz + j, none⟩ = some u ∧ PR w A p u ∧ u.oneCell' = true := by
 obtain ⟨h1, h2, h2', h3, h4⟩ := hb
 rcases h4 with ⟨_, rfl⟩ | ⟨_, cs, e, fz, h5, h6, h7, h8, h9⟩
 · simp at hi
 · obtain ⟨h10, h11⟩ := h9 i row j p hi hj
   refine ⟨_, getD_cell h5 ?_, by rw [h1]; exact h10, by rw [h1]; exact h11⟩
   have hr := h3 i row hi
   have hj' : j < sz := by have := (List.getElem?_eq_some_iff.1 hj).1; omega
   have hil : i < rows.length := (List.getElem?_eq_some_iff.1 hi).1
   have : i * sz + sz ≤ rows.length * sz := by rw [← Nat.succ_mul]; exact Nat.mul_le_mul_right _ hil
   rw [h1]; omega
theorem load_sound (h : Rl Γ s tm w β) {t : TypeId} {x : AV} {u : Value} (hx : AR w (Av Γ.X β) β x u) (hK : opLoad P t x s.blk K) : OutS Γ s w β K ((Instr.loadAt t u).run P w) := by
 unfold opLoad at hK
 split at hK
 · rename_i k i j
   split at hK
   · rename_i cells hs
     obtain ⟨bi, hβ, h1, cs, e, fz, h2, h3, h4, h5, h6⟩ := h.live hs
     split at hK
     · obtain rfl := hx.loc_inv hβ
       simp only [Instr.loadAt, Instr.sureAddr, Sem.run_bind, Sem.run_pure, Result.andThen_ok, Nat.zero_mul, Nat.zero_add]
       refine getCells_sound hK (f := fun i => cs.getD (j + i) undef) fun i av hav => ?_
       rw [Addr.add_lit]
       refine ⟨getD_cell h2 ?_, (h6 _ av hav).1, fun k' hk' => (h.used2 k _ hs).2 k' ?_⟩
       · have := (List.getElem?_eq_some_iff.1 hav).1; omega
       · simp only [Blk.keys]; exact AV.mem_keysL.2 ⟨av, List.mem_of_getElem? hav, hk'⟩
     · exact hK.elim
   · rename_i sz rows hs
     obtain ⟨bi, hβ, hb⟩ := h.live hs
     obtain rfl := hx.loc_inv hβ
     simp only [Instr.loadAt, Instr.sureAddr, Sem.run_bind, Sem.run_pure, Result.andThen_ok]
     have hcell := fun {i row j p} => row_cell (w := w) (β := β) hb (i := i) (row := row) (j := j) (p := p)
     obtain ⟨h1, h2, h2', h3, h4⟩ := hb
     split at hK
     · rename_i ha
       split at hK
       · obtain ⟨row, hi, hK⟩ := hK
         have : ∀ y, ∃ u, ∀ p, row[j + y]? = some p → w.cell? ⟨bi.b, i * bi.sz + (j + y), none⟩ = some u ∧ PR w (Av Γ.X β) p u := fun y => by
           cases hy : row[j + y]? with
           | none => exact ⟨undef, fun p hp => by cases hp⟩
           | some p =>
             obtain ⟨u, hu1, hu2, _⟩ := hcell hi hy
             exact ⟨u, fun q hq => by cases hq; exact ⟨hu1, hu2⟩⟩
         obtain ⟨g, hg⟩ := Classical.axiomOfChoice this
         refine getCells_sound hK (f := g) fun y av hav => ?_
         obtain ⟨p, hp, rfl⟩ := pures_get hav
         rw [Addr.add_lit, Nat.add_assoc]
         exact ⟨(hg y p hp).1, .pure _ _ (hg y p hp).2, by simp [AV.keys]⟩
       rcases hK with ⟨row, hi, hn, rfl, hK⟩ | ⟨rfl, rfl, hn, hK⟩
       · have hr := h3 i row hi
         have : ∀ y, ∃ u, ∀ p, row[y]? = some p → w.cell? ⟨bi.b, i * bi.sz + y, none⟩ = some u ∧ PR w (Av Γ.X β) p u := fun y => by
           cases hy : row[y]? with
           | none => exact ⟨undef, fun p hp => by cases hp⟩
           | some p =>
             obtain ⟨u, hu1, hu2, _⟩ := hcell hi hy
             exact ⟨u, fun q hq => by cases hq; exact ⟨hu1, hu2⟩⟩
         obtain ⟨g, hg⟩ := Classical.axiomOfChoice this
         refine OutS.same hK (run_loadVar_agg ha hn (f := g) fun y hy => ?_) ?_ ?_
         · rw [Addr.add_lit, Nat.add_zero]
           exact (hg y _ (List.getElem?_eq_getElem (by omega))).1
         · refine .agg _ _ (by simp [pures, hr]) fun y p hp => ?_
           obtain ⟨q, hq, rfl⟩ := pures_get hp
           have hy : y < sz := by have := (List.getElem?_eq_some_iff.1 hq).1; omega
           rw [getD_range _ _ _ hy]
           exact .pure _ _ (hg y q hq).2
         · simp only [AV.keys, keys_pures, List.not_mem_nil, false_implies, implies_true]
       · have : ∀ y, ∃ u, ∀ p, rows.flatten[y]? = some p → w.cell? ⟨bi.b, y, none⟩ = some u ∧ PR w (Av Γ.X β) p u := fun y => by
           cases hy : rows.flatten[y]? with
           | none => exact ⟨undef, fun p hp => by cases hp⟩
           | some p =>
             obtain ⟨x1, row, y1, hx1, hy1, rfl⟩ := flatten_get h3 hy
             obtain ⟨u, hu1, hu2, _⟩ := hcell hx1 hy1
             rw [h1] at hu1
             exact ⟨u, fun q hq => by cases hq; exact ⟨hu1, hu2⟩⟩
         obtain ⟨g, hg⟩ := Classical.axiomOfChoice this
         have hfl := flatten_len h3
         refine OutS.same hK (run_loadVar_agg ha hn (f := g) fun y hy => ?_) ?_ ?_
         · rw [Addr.add_lit, show 0 * bi.sz + 0 + y = y from by omega]
           exact (hg y _ (List.getElem?_eq_getElem (by omega))).1
         · refine .pure _ _ (.agg _ _ (by simp only [List.length_map, List.size_toArray, List.length_range]; omega) fun y q hq => ?_)
           have hy : y < rows.length * sz := by have := (List.getElem?_eq_some_iff.1 hq).1; omega
           rw [getD_range _ _ _ hy]
           exact (hg y q hq).2
         · simp only [AV.keys, List.not_mem_nil, false_implies, implies_true]
     · rename_i ha
       obtain ⟨row, p, hi, hj, hK⟩ := hK
       obtain ⟨u, hu1, hu2, _⟩ := hcell hi hj
       exact OutS.same hK (run_loadVar_one ha hu1) (.pure _ _ hu2) (by simp [AV.keys])
     · exact hK.elim
   · exact hK.elim
 · rename_i cs
   cases hx with
   | pure _ _ hp =>
     cases hp with
     | ptr _ a us hb hr hp =>
       simp only [Instr.loadAt, Instr.sureAddr, Sem.run_bind, Sem.run_pure, Result.andThen_ok]
       have old : getCells P t (pures cs) 0 K → OutS Γ s w β K ((loadVar t a).run P w) := fun hK => by
         refine getCells_sound hK (f := us) fun i av hav => ?_
         rw [Nat.zero_add] at hav
         obtain ⟨p, hp', rfl⟩ := pures_get hav
         exact ⟨(hr i p hp').1, .pure _ _ (hp i p hp'), by simp [AV.keys]⟩
       split at hK
       · rcases hK with ⟨hn, ha, hK⟩ | hK
         · refine OutS.same hK (run_loadVar_agg ha hn (f := us) fun y hy => (hr y _ (List.getElem?_eq_getElem hy)).1) ?_ ?_
           · refine .pure _ _ (.agg _ _ (by simp only [List.length_map, List.size_toArray, List.length_range]) fun y q hq => ?_)
             have hy : y < cs.length := (List.getElem?_eq_some_iff.1 hq).1
             rw [getD_range _ _ _ hy]
             exact hp y q hq
           · simp only [AV.keys, List.not_mem_nil, false_implies, implies_true]
         · exact old hK
       · exact old hK
 · rename_i sz rows
   split at hK
   · rename_i ha
     obtain ⟨hn, hK⟩ := hK
     cases hx with
     | pure _ _ hp =>
     cases hp with
     | par _ _ a us hsz hb hl hr hp =>
       simp only [Instr.loadAt, Instr.sureAddr, Sem.run_bind, Sem.run_pure, Result.andThen_ok]
       have : ∀ y, ∃ u, ∀ p, rows.flatten[y]? = some p → w.cell? (a.add y) = some u ∧ PR w (Av Γ.X β) p u := fun y => by
         cases hy : rows.flatten[y]? with
         | none => exact ⟨undef, fun p hp => by cases hp⟩
         | some p =>
           obtain ⟨x1, row, y1, hx1, hy1, rfl⟩ := flatten_get hl hy
           exact ⟨us x1 y1, fun q hq => by cases hq; exact ⟨(hr x1 row y1 p hx1 hy1).1, hp x1 row y1 p hx1 hy1⟩⟩
       obtain ⟨g, hg⟩ := Classical.axiomOfChoice this
       have hfl := flatten_len hl
       refine OutS.same hK (run_loadVar_agg ha hn (f := g) fun y hy => ?_) ?_ ?_
       · exact (hg y _ (List.getElem?_eq_getElem (by omega))).1
       · refine .pure _ _ (.agg _ _ (by simp only [List.length_map, List.size_toArray, List.length_range]; omega) fun y q hq => ?_)
         have hy : y < rows.length * sz := by have := (List.getElem?_eq_some_iff.1 hq).1; omega
         rw [getD_range _ _ _ hy]
         exact (hg y q hq).2
       · simp only [AV.keys, List.not_mem_nil, false_implies, implies_true]
   · exact hK.elim
 · exact hK.elim
theorem PV.one_spec {w : World} {A : Nat → Prop} {p : PV} {u : Value} (h : PR w A p u) (h1 : p.one = true) : u.oneCell' = true := by
 cases h <;> first | exact h1 | rfl | (simp [PV.one] at h1)
theorem AV.one_spec (h : Rl Γ s tm w β) {v : AV} {u : Value} (hv : AR w (Av Γ.X β) β v u) {B : Nat → Option Blk} (hB : ∀ k, (B k).isSome = true → (s.blk k).isSome = true) (h1 : v.one B = true) : u.oneCell' = true := by
 have hd : ∀ k, (B k).isSome = true → β k ≠ none := fun k hk hn => by
   have h2 := hB k hk
   have hb := h.blks k
   rw [hn] at hb
   cases hs : s.blk k with
   | none => rw [hs] at h2; cases h2
   | some b => rw [hs] at hb; exact hb.elim
 cases hv with
 | junk => simp [AV.one] at h1
 | gh => simp [AV.one] at h1
 | pure p _ hp => exact PV.one_spec hp h1
 | loc => rfl
 | locDead k i j _ hn => exact absurd hn (hd k h1)
 | lsl => rfl
 | lslV => rfl
 | lslDead k i n _ hn => exact absurd hn (hd k h1)
 | mp => rfl
 | mpDead k _ hn => exact absurd hn (hd k h1)
 | agg => simp [AV.one] at h1
 | fn => rfl
 | bm => rfl
 | tup => simp [AV.one] at h1
theorem allOne_spec {B : Nat → Option Blk} : ∀ {l : List AV}, allOne B l = true → ∀ a ∈ l, a.one B = true
 | [], _, a, ha => by cases ha
 | b :: l, h, a, ha => by
   simp only [allOne] at h
   cases hb : b.one B with
   | false => rw [hb] at h; simp at h
   | true =>
     rw [hb] at h
     rcases List.mem_cons.1 ha with rfl | ha
     · exact hb
     · exact allOne_spec (by simpa using h) a ha
theorem cells_one {u : Value} (h : u.oneCell' = true) : u.cells = #[u] := by cases u <;> first | rfl | (simp [Value.oneCell'] at h)
theorem cellsOf_spec (h : Rl Γ s tm w β) {v : AV} {u : Value} (hv : AR w (Av Γ.X β) β v u) {B : Nat → Option Blk} (hB : ∀ k, (B k).isSome = true → (s.blk k).isSome = true) (h1 : allOne B (cellsOf v) = true) :
   u.cells.size = (cellsOf v).length ∧ ∀ (j : Nat) (av : AV), (cellsOf v)[j]? = some av → AR w (Av Γ.X β) β av (u.cells.getD j undef) ∧ (u.cells.getD j undef).oneCell' = true := by
 have hall := allOne_spec h1
 have single : cellsOf v = [v] → u.cells.size = (cellsOf v).length ∧ ∀ (j : Nat) (av : AV), (cellsOf v)[j]? = some av → AR w (Av Γ.X β) β av (u.cells.getD j undef) ∧ (u.cells.getD j undef).oneCell' = true := fun e => by
   have ho := AV.one_spec h hv hB (hall v (by rw [e]; simp))
   rw [e, cells_one ho]
   refine ⟨rfl, fun j av hj => ?_⟩
   cases j with
   | zero => simp at hj; subst hj; exact ⟨hv, ho⟩
   | succ j => simp at hj
 cases hv with
 | agg cs vs hl hp =>
   refine ⟨hl, fun j av hj => ⟨hp j av hj, ?_⟩⟩
   exact AV.one_spec h (hp j av hj) hB (hall av (List.mem_of_getElem? hj))
 | pure p _ hp =>
   cases hp with
   | agg cs vs hl hp =>
     refine ⟨by simp only [cellsOf, pures, List.length_map]; exact hl, fun j av hj => ?_⟩
     obtain ⟨q, hq, rfl⟩ := pures_get hj
     exact ⟨.pure _ _ (hp j q hq), AV.one_spec h (.pure _ _ (hp j q hq)) hB (hall _ (List.mem_of_getElem? hj))⟩
   | val => exact single rfl
   | slnil => exact single rfl
   | sl => exact single rfl
   | ptr => exact single rfl
   | par => exact single rfl
   | tup => exact single rfl
   | fn => exact single rfl
   | bm => exact single rfl
   | slcnil => exact single rfl
   | slc => exact single rfl
   | mp => exact single rfl
 | junk => exact single rfl
 | gh => exact single rfl
 | loc => exact single rfl
 | locDead => exact single rfl
 | lsl => exact single rfl
 | lslV => exact single rfl
 | lslDead => exact single rfl
 | fn => exact single rfl
 | bm => exact single rfl
 | tup => exact single rfl
 | mp => exact single rfl
 | mpDead => exact single rfl
theorem cellsOf_keys (v : AV) : AV.keysL (cellsOf v) = v.keys := by
 cases v with
 | pure p => cases p <;> simp [cellsOf, keys_pures, AV.keys, AV.keysL]
 | agg cs => rfl
 | junk => rfl
 | gh => rfl
 | loc => rfl
 | lsl => rfl
 | mp => rfl
 | fn f cs => simp [cellsOf, AV.keysL]
 | tup cs => simp [cellsOf, AV.keysL]
theorem new_box (h : Rl Γ s tm w β) {d : Nat} (hd : d ∉ s.used) (hfx : d ∉ Γ.fx) (t : TypeId) {cells : List AV} {cs : Array Value} (hl : cs.size = cells.length)
   (hc : ∀ (j : Nat) (av : AV), cells[j]? = some av → AR w (Av Γ.X β) β av (cs.getD j undef) ∧ (cs.getD j undef).oneCell' = true) (hk : ∀ k ∈ AV.keysL cells, k ∈ s.used) :
   ∃ β', Rl Γ (s.new d (.box cells)) tm (w.alloc (.cells cs t)) β' ∧ AR (w.alloc (.cells cs t)) (Av Γ.X β') β' (.loc d 0 0) (.pointer (some ⟨w.heap.size, 0, none⟩)) := by
 have hn := h.newK hd hfx ⟨w.heap.size, 1, cs.size, 0, false⟩ (.box cells) (w' := w.alloc (.cells cs t)) (by simp) (fun b hb => heap_alloc_old w _ hb) rfl tpr rfl (fun _ => ⟨rfl, by simp⟩) hk
   (fun β' e1 e2 had => ⟨rfl, cs, t, (0, 0), heap_alloc_new w _, NF.zero cs, hl, rfl, fun j av hj => ⟨(hc j av hj).1.mono had fun k hkv => e2 k fun e => hd (e ▸ hk k (AV.mem_keysL.2 ⟨av, List.mem_of_getElem? hj, hkv⟩)), (hc j av hj).2⟩⟩)
 refine ⟨_, hn, ?_⟩
 have := AR.loc (w := w.alloc (.cells cs t)) (A := Av Γ.X (fun j => if j = d then some ⟨w.heap.size, 1, cs.size, 0, false⟩ else β j)) (β := fun j => if j = d then some ⟨w.heap.size, 1, cs.size, 0, false⟩ else β j) d 0 0 ⟨w.heap.size, 1, cs.size, 0, false⟩ (by simp)
 simpa using this
theorem new_row (h : Rl Γ s tm w β) {w1 : World} (hw : w1.heap = w.heap) (ho : w1.os = w.os) (ht : Tp w1 w) (hp : w1.output = w.output) {d : Nat} (hd : d ∉ s.used) (hfx : d ∉ Γ.fx) (t : TypeId) {sz : Nat} {rows : List (List PV)} {cs : Array Value} (fz : Nat × Nat) (hfz : NF cs fz) (hsz : 0 < sz) (hl : rows.length * sz ≤ cs.size)
   (hr : ∀ (i : Nat) (row : List PV), rows[i]? = some row → row.length = sz)
   (hc : ∀ (i : Nat) (row : List PV) (j : Nat) (p : PV), rows[i]? = some row → row[j]? = some p → PR w (Av Γ.X β) p (cs.getD (i * sz + j) undef) ∧ (cs.getD (i * sz + j) undef).oneCell' = true) :
   ∃ β', Rl Γ (s.new d (.row sz rows)) tm (w1.alloc (.cells cs t fz)) β' ∧ β' d = some ⟨w.heap.size, sz, cs.size, rows.length, false⟩ := by
 have hn := h.newK hd hfx ⟨w.heap.size, sz, cs.size, rows.length, false⟩ (.row sz rows) (w' := w1.alloc (.cells cs t fz)) (by simp [hw]) (fun b hb => by rw [heap_alloc_old w1 _ (by rw [hw]; exact hb), hw]) ho ⟨ht.eq, ht.le⟩ hp (fun _ => ⟨rfl, by simp [hw]⟩) (by simp [Blk.keys])
   (fun β' e1 e2 had => ⟨rfl, hsz, rfl, hr, .inr ⟨rfl, cs, t, fz, by have := heap_alloc_new w1 (.cells cs t fz); rw [hw] at this; exact this, hfz, rfl, hl, fun i row j p hi hj => ⟨(hc i row j p hi hj).1.mono had, (hc i row j p hi hj).2⟩⟩⟩)
 exact ⟨_, hn, by simp⟩
theorem freshIn_spec {d : Nat} : ∀ {l : List Nat}, freshIn d l = true → d ∉ l
 | [], _ => by simp
 | k :: l, h => by
   simp only [freshIn, beq_eq_decide] at h
   by_cases e : d = k
   · simp [e] at h
   · simp only [e, decide_false, cond_false] at h
     simp [e, freshIn_spec h]
end
end Go.Avc
/- Boxes, new variables, stores, addresses, fields, indexes, integer operations: what they do, and that the model does so. Conditions: none. -/
namespace Go.Avc
open Go.RowKit
section
variable {Γ : Ctx} {s : St} {tm : Array Value} {w : World} {β : BM} {P : Program} {K : Kont}
theorem mem_singles {ps : List PV} {i : Nat} {row : List PV} (h : (singles ps)[i]? = some row) : ∃ p, ps[i]? = some p ∧ row = [p] := by
 simp only [singles, List.getElem?_map, Option.map_eq_some_iff] at h
 obtain ⟨p, hp, rfl⟩ := h
 exact ⟨p, hp, rfl⟩
theorem box_sound (h : Rl Γ s tm w β) {t : TypeId} {x : AV} {u : Value} {d : Nat} (hd : d ∉ s.used) (hfx : d ∉ Γ.fx) (hx : AR w (Av Γ.X β) β x u) (hkx : ∀ k ∈ x.keys, k ∈ s.used) (hK : opBox P t x d s.blk K) :
   Out Γ s tm K ((Instr.box t u).run P w) := by
 unfold opBox at hK
 simp only [forceC_eq] at hK
 split at hK
 · exact hK.elim
 rename_i h1
 obtain ⟨hl, hc⟩ := cellsOf_spec h hx (B := s.blk) (fun _ h => h) h1
 have hrun : (Instr.box t u).run P w = .ok (.pointer (some ⟨w.heap.size, 0, none⟩)) (w.alloc (.cells u.cells t)) := by
   simp [Instr.box, newVar, newRow]
 split at hK
 · obtain ⟨β', hn, ha⟩ := new_box h hd hfx t hl hc (by rw [cellsOf_keys]; exact hkx)
   exact ⟨_, _, _, _, β', hK, hrun, hn, ha, by simp [AV.keys, St.acts, St.act, St.new]⟩
 · split at hK
   · rename_i ps hps
     obtain ⟨hpl, hpp⟩ := toPVL_some hps
     obtain ⟨β', hn, ha⟩ := new_row h (w1 := w) rfl rfl tpr rfl hd hfx t (sz := 1) (rows := singles ps) (cs := u.cells) (0, 0) (NF.zero _) (by omega) (by simp [singles]; omega)
       (fun i row hi => by obtain ⟨p, _, rfl⟩ := mem_singles hi; rfl) (fun i row j p hi hj => by
         obtain ⟨q, hq, rfl⟩ := mem_singles hi
         cases j with
         | succ j => simp at hj
         | zero =>
           simp only [List.getElem?_cons_zero, Option.some.injEq] at hj
           subst hj
           obtain ⟨a, ha, hap⟩ := hpp i q hq
           simp only [Nat.mul_one, Nat.add_zero]
           obtain ⟨h2, h3⟩ := hc i _ ha
           exact ⟨h2.toPV0 hap, h3⟩)
     refine ⟨_, _, _, _, β', hK, hrun, hn, ?_, by simp [AV.keys, St.acts, St.act, St.new]⟩
     have := AR.loc (w := w.alloc (.cells u.cells t)) (A := Av Γ.X β') (β := β') d 0 0 _ ha
     simpa using this
   · exact hK.elim
theorem vals_get (vs : Array Value) (j : Nat) (av : AV) (h : (vs.toList.map fun v => AV.pure (.val v))[j]? = some av) : av = .pure (.val (vs.getD j undef)) := by
 simp only [List.getElem?_map, Option.map_eq_some_iff, Array.getElem?_toList] at h
 obtain ⟨v, hv, rfl⟩ := h
 rw [Array.getD_eq_getD_getElem?, hv]
 rfl
theorem alloc_sound (h : Rl Γ s tm w β) {t : TypeId} {d : Nat} (hd : d ∉ s.used) (hfx : d ∉ Γ.fx) (hK : opAlloc P t d K) :
   Out Γ s tm K ((Instr.alloc t true (.tuple #[])).run P w) := by
 unfold opAlloc at hK
 simp only [forceC_eq] at hK
 split at hK
 case h_2 => exact hK.elim
 rename_i i hi
 split at hK
 case h_2 => exact hK.elim
 rename_i z hz
 have hrun : (Instr.alloc t true (.tuple #[])).run P w = .ok (.pointer (some ⟨w.heap.size, 0, none⟩)) (w.alloc (.cells z.cells t)) := by
   simp [Instr.alloc, zeroValue, typeInfo, hi, hz, newVar, newRow]
 have hone : ∀ {l : List AV}, allOne (fun _ => none) l = true → ∀ a ∈ l, a.one (fun _ => none) = true := fun h => allOne_spec h
 split at hK
 · split at hK
   · rename_i h1
     obtain ⟨β', hn, ha⟩ := new_box h hd hfx t (cells := z.cells.toList.map fun v => .pure (.val v)) (cs := z.cells) (by simp) (fun j av hj => by
       have e := vals_get _ _ _ hj
       subst e
       exact ⟨.pure _ _ (.val _), hone h1 _ (List.mem_of_getElem? hj)⟩) (fun k hk => by
       obtain ⟨a, ha, hka⟩ := AV.mem_keysL.1 hk
       obtain ⟨v, _, rfl⟩ := List.mem_map.1 ha
       simp [AV.keys] at hka)
     exact ⟨_, _, _, _, β', hK, hrun, hn, ha, by simp [AV.keys, St.acts, St.act, St.new]⟩
   · exact hK.elim
 · split at hK
   · rename_i h1
     obtain ⟨β', hn, ha⟩ := new_row h (w1 := w) rfl rfl tpr rfl hd hfx t (sz := 1) (rows := singles (z.cells.toList.map .val)) (cs := z.cells) (0, 0) (NF.zero _) (by omega) (by simp [singles])
       (fun i row hi => by obtain ⟨p, _, rfl⟩ := mem_singles hi; rfl) (fun i row j p hi hj => by
         obtain ⟨q, hq, rfl⟩ := mem_singles hi
         cases j with
         | succ j => simp at hj
         | zero =>
           simp only [List.getElem?_cons_zero, Option.some.injEq] at hj
           subst hj
           simp only [List.getElem?_map, Option.map_eq_some_iff, Array.getElem?_toList] at hq
           obtain ⟨v, hv, rfl⟩ := hq
           have e : z.cells.getD (i * 1 + 0) undef = v := by rw [Array.getD_eq_getD_getElem?]; simp [hv]
           rw [e]
           exact ⟨.val _, hone h1 (.pure (.val v)) (List.mem_map.2 ⟨v, by simpa using Array.mem_of_getElem? hv, rfl⟩)⟩)
     refine ⟨_, _, _, _, β', hK, hrun, hn, ?_, by simp [AV.keys, St.acts, St.act, St.new]⟩
     have := AR.loc (w := w.alloc (.cells z.cells t)) (A := Av Γ.X β') (β := β') d 0 0 _ ha
     simpa using this
   · exact hK.elim
theorem run_stores (P : Program) (b : Nat) (e : TypeId) (fz : Nat × Nat) : ∀ (vs : List Value) (o i : Nat) (cs : Array Value) (w : World), w.heap[b]? = some (.cells cs e fz) → NF cs fz → o + i + vs.length ≤ cs.size →
   (∀ v ∈ vs, v.oneCell' = true) → ∃ w' cs', (storeCells ⟨b, o, none⟩ vs i).run P w = .ok () w' ∧ w'.heap[b]? = some (.cells cs' e fz) ∧ cs'.size = cs.size ∧
     (∀ x, cs'.getD x undef = if o + i ≤ x ∧ x < o + i + vs.length then vs.getD (x - (o + i)) undef else cs.getD x undef) ∧ w'.heap.size = w.heap.size ∧ (∀ b', b' ≠ b → w'.heap[b']? = w.heap[b']?) ∧
     w'.os = w.os ∧ Tp w' w ∧ w'.output = w.output
 | [], o, i, cs, w, hb, _, _, _ => ⟨w, cs, rfl, hb, rfl, fun x => by rw [if_neg (by simp only [List.length_nil]; omega)], rfl, fun _ _ => rfl, rfl, tpr, rfl⟩
 | v :: vs, o, i, cs, w, hb, hnf, hl, h1 => by
   simp only [List.length_cons] at hl
   have hc : w.cell? ⟨b, o + i, none⟩ = some (cs.getD (o + i) undef) := getD_cell hb (by omega)
   have hf : w.frozen? ⟨b, o + i, none⟩ = false := by
     have := hnf (o + i) (by omega)
     simp only [World.frozen?, hb]
     simpa using this
   have hb' : (w.setCell ⟨b, o + i, none⟩ v).heap[b]? = some (.cells (cs.setIfInBounds (o + i) v) e fz) := by
     simp [World.setCell, Array.getElem?_modify, hb]
   obtain ⟨w', cs', h2, h3, h4, h5, h6, h7, h8, h9, h10⟩ := run_stores P b e fz vs o (i + 1) (cs.setIfInBounds (o + i) v) (w.setCell ⟨b, o + i, none⟩ v) hb' (fun j hj => hnf j (by simpa using hj)) (by simp; omega) (fun v hv => h1 v (List.mem_cons_of_mem _ hv))
   refine ⟨w', cs', ?_, h3, by rw [h4]; simp, fun x => ?_, by rw [h6]; simp, fun b' hb'' => (h7 b' hb'').trans (Below.heap_setCell _ _ _ _ hb''), h8, ⟨h9.eq, h9.le⟩, h10⟩
   · simp only [storeCells, Sem.run_bind, run_store P w _ v _ (h1 v List.mem_cons_self), Addr.add_lit, hc, hf, Bool.false_eq_true, if_false, Result.andThen_ok]
     exact h2
   · rw [h5 x, getD_set _ _ _ _ (by omega)]
     by_cases e1 : o + i = x
     · subst e1
       rw [if_neg (by omega), if_pos rfl, if_pos (by simp only [List.length_cons]; omega)]
       simp
     · by_cases e2 : o + (i + 1) ≤ x ∧ x < o + (i + 1) + vs.length
       · rw [if_pos e2, if_pos (by simp only [List.length_cons]; omega)]
         have : x - (o + i) = (x - (o + (i + 1))) + 1 := by omega
         rw [this]
         simp
       · rw [if_neg e2, if_neg e1, if_neg (by simp only [List.length_cons]; omega)]
theorem overlay_spec {α : Type} : ∀ {l vs r : List α}, overlay l vs = some r → r.length = l.length ∧ vs.length ≤ l.length ∧ ∀ x, r[x]? = if x < vs.length then vs[x]? else l[x]?
 | l, [], r, h => by simp [overlay] at h; subst h; simp
 | [], _ :: _, r, h => by simp [overlay] at h
 | a :: l, v :: vs, r, h => by
   simp only [overlay, Option.map_eq_some_iff] at h
   obtain ⟨q, hq, rfl⟩ := h
   obtain ⟨h1, h2, h3⟩ := overlay_spec hq
   refine ⟨by simp [h1], by simp; omega, fun x => ?_⟩
   cases x with
   | zero => simp
   | succ x => simpa using h3 x
theorem splice_spec {α : Type} : ∀ {j : Nat} {l vs r : List α}, splice j l vs = some r → r.length = l.length ∧ j + vs.length ≤ l.length ∧ ∀ x, r[x]? = if j ≤ x ∧ x < j + vs.length then vs[x - j]? else l[x]?
 | 0, l, vs, r, h => by
   obtain ⟨h1, h2, h3⟩ := overlay_spec h
   exact ⟨h1, by omega, fun x => by rw [h3 x]; simp⟩
 | _ + 1, [], _, r, h => by simp [splice] at h
 | j + 1, a :: l, vs, r, h => by
   simp only [splice, Option.map_eq_some_iff] at h
   obtain ⟨q, hq, rfl⟩ := h
   obtain ⟨h1, h2, h3⟩ := splice_spec hq
   refine ⟨by simp [h1], by simp; omega, fun x => ?_⟩
   cases x with
   | zero => simp
   | succ x =>
     simp only [List.getElem?_cons_succ, h3 x]
     by_cases e : j ≤ x ∧ x < j + vs.length
     · rw [if_pos e, if_pos (by omega)]
       congr 1
       omega
     · rw [if_neg e, if_neg (by omega)]
theorem acts_append (s : St) (l m : List BAct) : s.acts (l ++ m) = (s.acts l).acts m := by simp [St.acts, List.foldl_append]
theorem freeze_used (s : St) (k : Nat) : (s.freeze k).used = s.used := by
 by_cases h : FzOK s.blk k
 · obtain ⟨c, h1, h2⟩ := h
   rw [freeze_ok h1 h2]; rfl
 · rw [freeze_other h]
theorem frzW_blk (s : St) (k : Nat) (c : Blk) (j : Nat) : (s.frzW k c).blk j = if k = j then none else (s.blk j).map (Blk.fz k c) := by
 simp only [St.frzW, St.blk, lk_cons]
 by_cases e : k = j
 · simp [e]
 · simp only [e, if_false]
   rw [lk_map (Option.map (Blk.fz k c))]
   cases lk s.blks j with
   | none => rfl
   | some x => cases x <;> rfl
theorem frzW_get (s : St) (k : Nat) (c : Blk) (t : Nat) : (s.frzW k c).get t = (s.get t).fz k c := by
 simp only [St.frzW, St.get, lk_map (AV.fz k c)]
 cases lk s.env t <;> rfl
theorem freezes_used (s : St) : ∀ l : List Nat, (s.acts (frzs l)).used = s.used
 | [] => rfl
 | k :: l => by
   show ((s.freeze k).acts (frzs l)).used = s.used
   rw [freezes_used (s.freeze k) l, freeze_used]
theorem freeze_blk_row (s : St) (k : Nat) {j sz : Nat} {rows : List (List PV)} (hs : s.blk j = some (.row sz rows)) (hne : k ≠ j) : (s.freeze k).blk j = some (.row sz rows) := by
 by_cases h : FzOK s.blk k
 · obtain ⟨c, h1, h2⟩ := h
   rw [freeze_ok h1 h2, frzW_blk, if_neg hne, hs]; rfl
 · rw [freeze_other h]; exact hs
theorem purL_fz (k : Nat) (c : Blk) : ∀ {l : List AV} {ps : List PV}, purL l = some ps → purL (AV.fzL k c l) = some ps
 | l, ps, h => by
   rw [purL_eq h, AV.fzL_eq]
   induction ps generalizing l with
   | nil => rfl
   | cons p ps ih =>
     simp only [List.map_cons, AV.fz, purL]
     rw [ih (l := ps.map .pure)]
     induction ps with
     | nil => rfl
     | cons q qs ih2 => 
       have : purL (List.map AV.pure (q :: qs)) = some (q :: qs) := by
         clear ih ih2 h
         induction (q :: qs) with
         | nil => rfl
         | cons a l ih => simp only [List.map_cons, purL, ih]
       exact this
theorem freeze_ok_other (s : St) (k : Nat) {j : Nat} (h : FzOK s.blk j) (hne : k ≠ j) : FzOK (s.freeze k).blk j := by
 by_cases hk : FzOK s.blk k
 · obtain ⟨c, h1, h2⟩ := hk
   obtain ⟨d, h3, h4⟩ := h
   refine ⟨Blk.fz k c d, ?_, ?_⟩
   · rw [freeze_ok h1 h2, frzW_blk, if_neg hne, h3]; rfl
   · cases d with
     | row => trivial
     | mp => exact h4.elim
     | box cs => obtain ⟨ps, hps⟩ := h4; exact ⟨ps, purL_fz k c hps⟩
 · rw [freeze_other hk]; exact h
theorem freezes_blk_row (s : St) {j sz : Nat} {rows : List (List PV)} : ∀ {l : List Nat}, s.blk j = some (.row sz rows) → j ∉ l → (s.acts (frzs l)).blk j = some (.row sz rows)
 | [], hs, _ => hs
 | k :: l, hs, hj => by
   show ((s.freeze k).acts (frzs l)).blk j = _
   exact freezes_blk_row (s.freeze k) (freeze_blk_row s k hs (fun e => hj (e ▸ List.mem_cons_self))) (fun hm => hj (List.mem_cons_of_mem _ hm))
theorem freezes (h : Rl Γ s tm w β) : ∀ {l : List Nat}, (∀ k ∈ l, k ∉ Γ.fx) →
   ∃ β', Rl Γ (s.acts (frzs l)) tm w β' ∧ (∀ j, j ∉ l → β' j = β j) ∧ (∀ j bj, β' j = some bj → β j = some bj) ∧ (∀ k ∈ l, FzOK s.blk k → β' k = none) := by
 intro l
 induction l generalizing s β with
 | nil => exact fun _ => ⟨β, h, fun _ _ => rfl, fun _ _ h => h, fun k hk => by cases hk⟩
 | cons k l ih =>
   intro hl
   obtain ⟨β1, h1, h2, h3, h4⟩ := h.freeze (hl k List.mem_cons_self)
   obtain ⟨β', g1, g2, g3, g4⟩ := ih h1 fun k hk => hl k (List.mem_cons_of_mem _ hk)
   refine ⟨β', g1, fun j hj => ?_, fun j bj hj => h3 j bj (g3 j bj hj), fun j hj hs => ?_⟩
   · simp only [List.mem_cons, not_or] at hj
     rw [g2 j hj.2, h2 j hj.1]
   · by_cases e : j = k
     · subst e
       have hn := h4 hs
       cases hb : β' j with
       | none => rfl
       | some bj => rw [g3 j bj hb] at hn; cases hn
     · rcases List.mem_cons.1 hj with rfl | hj
       · exact absurd rfl e
       · exact g4 j hj (freeze_ok_other s k hs (Ne.symm e))
mutual
theorem toPV_keys {B : Nat → Option Blk} : ∀ (v : AV) {q : PV}, toPV B v = some q → ∀ k ∈ v.keys, FzOK B k
 | .junk, _, h, k, hk => by simp [AV.keys] at hk
 | .gh _ _, _, h, k, hk => by simp [AV.keys] at hk
 | .pure p, _, h, k, hk => by simp [AV.keys] at hk
 | .loc k' i j, _, h, k, hk => by
   simp only [AV.keys, List.mem_singleton] at hk
   subst hk
   cases i with
   | succ i => simp only [toPV] at h; cases h
   | zero =>
   simp only [toPV] at h
   split at h
   · rename_i cs hs
     split at h
     · rename_i ps hps
       exact FzOK.box hs hps
     · cases h
   · rename_i sz rows hs
     exact FzOK.row hs
   · cases h
 | .lsl k' i n, _, h, k, hk => by
   simp only [AV.keys, List.mem_singleton] at hk
   subst hk
   simp only [toPV] at h
   split at h
   · rename_i sz rows hs
     exact FzOK.row hs
   · cases h
 | .agg cs, _, h, k, hk => by
   simp only [toPV, Option.map_eq_some_iff] at h
   obtain ⟨ps, hps, _⟩ := h
   exact toPVL_keys cs hps k hk
 | .fn f cs, _, h, k, hk => by
   simp only [toPV, Option.map_eq_some_iff] at h
   obtain ⟨ps, hps, _⟩ := h
   exact toPVL_keys cs hps k hk
 | .tup cs, _, h, k, hk => by
   simp only [toPV, Option.map_eq_some_iff] at h
   obtain ⟨ps, hps, _⟩ := h
   exact toPVL_keys cs hps k hk
theorem toPVL_keys {B : Nat → Option Blk} : ∀ (l : List AV) {ps : List PV}, toPVL B l = some ps → ∀ k ∈ AV.keysL l, FzOK B k
 | [], _, h, k, hk => by simp [AV.keysL] at hk
 | a :: l, _, h, k, hk => by
   simp only [toPVL, Option.bind_eq_some_iff, Option.map_eq_some_iff] at h
   obtain ⟨p, hp, qs, hq, rfl⟩ := h
   simp only [AV.keysL, List.mem_append] at hk
   rcases hk with hk | hk
   · exact toPV_keys a hp k hk
   · exact toPVL_keys l hq k hk
end
theorem kills_all (h : Rl Γ s tm w β) : ∀ {l : List Nat}, (∀ k ∈ l, k ∉ Γ.fx) →
   ∃ β', Rl Γ (s.acts (kills l)) tm w β' ∧ (∀ j, j ∉ l → β' j = β j) ∧ (∀ j bj, β' j = some bj → β j = some bj) ∧ (∀ k ∈ l, FzOK s.blk k → β' k = none) := by
 intro l
 suffices hh : (∀ k ∈ l, k ∉ Γ.fx) → ∃ β', Rl Γ (s.acts (kills l)) tm w β' ∧ (∀ j, j ∉ l → β' j = β j) ∧ (∀ j bj, β' j = some bj → β j = some bj) ∧ (∀ k ∈ l, β' k = none) by
   intro hl
   obtain ⟨β', h1, h2, h3, h4⟩ := hh hl
   exact ⟨β', h1, h2, h3, fun k hk _ => h4 k hk⟩
 induction l generalizing s β with
 | nil => exact fun _ => ⟨β, h, fun _ _ => rfl, fun _ _ h => h, fun k hk => by cases hk⟩
 | cons k l ih =>
   intro hl
   obtain ⟨β', g1, g2, g3, g4⟩ := ih (h.killK (hl k List.mem_cons_self)) fun k hk => hl k (List.mem_cons_of_mem _ hk)
   have h3 : ∀ j bj, β' j = some bj → j ≠ k ∧ β j = some bj := fun j bj hj => by
     have := g3 j bj hj
     by_cases e : j = k
     · simp [e] at this
     · exact ⟨e, by simpa [e] using this⟩
   refine ⟨β', g1, fun j hj => ?_, fun j bj hj => (h3 j bj hj).2, fun j hj => ?_⟩
   · simp only [List.mem_cons, not_or] at hj
     rw [g2 j hj.2]
     simp [hj.1]
   · by_cases e : j = k
     · subst e
       cases hb : β' j with
       | none => rfl
       | some bj => exact absurd rfl (h3 j bj hb).1
     · rcases List.mem_cons.1 hj with rfl | hj
       · exact absurd rfl e
       · exact g4 j hj
theorem fks (h : Rl Γ s tm w β) (md : Bool) {l : List Nat} (hl : ∀ k ∈ l, k ∉ Γ.fx) :
   ∃ β', Rl Γ (s.acts (fk md l)) tm w β' ∧ (∀ j, j ∉ l → β' j = β j) ∧ (∀ j bj, β' j = some bj → β j = some bj) ∧ (∀ k ∈ l, FzOK s.blk k → β' k = none) := by
 cases md
 · exact freezes h hl
 · exact kills_all h hl
theorem fks_used (s : St) (md : Bool) (l : List Nat) : (s.acts (fk md l)).used = s.used := by
 cases md
 · exact freezes_used s l
 · show (s.acts (kills l)).used = s.used
   induction l generalizing s with
   | nil => rfl
   | cons k l ih => exact ih (s.kill k)
theorem fks_blk_row (s : St) (md : Bool) {j sz : Nat} {rows : List (List PV)} {l : List Nat} (hs : s.blk j = some (.row sz rows)) (hj : j ∉ l) : (s.acts (fk md l)).blk j = some (.row sz rows) := by
 cases md
 · exact freezes_blk_row s hs hj
 · show (s.acts (kills l)).blk j = _
   induction l generalizing s with
   | nil => exact hs
   | cons k l ih =>
     simp only [List.mem_cons, not_or] at hj
     refine ih (s.kill k) ?_ hj.2
     rw [St.blk_kill, if_neg (Ne.symm hj.1)]
     exact hs
theorem freezes_PR (h : Rl Γ s tm w β) {l : List Nat} {x : AV} {u : Value} {q : PV} (hx : AR w (Av Γ.X β) β x u) (hl : ∀ k ∈ x.keys, k ∈ l) (hq : toPV s.blk x = some q)
   {β' : BM} (g3 : ∀ j bj, β' j = some bj → β j = some bj) (g4 : ∀ k ∈ l, FzOK s.blk k → β' k = none) : PR w (Av Γ.X β') q u := by
 have had : Ad w (Av Γ.X β) w (Av Γ.X β') := ⟨Nat.le_refl _, fun b _ hA => ⟨rfl, fun hA' => hA (by
   rcases hA' with hx | ⟨j, bj, hj, hv, hb⟩
   · exact .inl hx
   · exact .inr ⟨j, bj, g3 j bj hj, hv, hb⟩)⟩⟩
 refine AR.toPV had h.blks hx (fun k hk bi hb hv => ?_) hq
 have hn := g4 k (hl k hk) (toPV_keys x hq k hk)
 rintro (hX | ⟨j, bj, hj, hv', hbb⟩)
 · exact h.notX k bi hb hv hX
 · have := h.inj j k bj bi (g3 j bj hj) hb hv' hv hbb
   subst this
   rw [hn] at hj; cases hj
theorem freezes_PRL (h : Rl Γ s tm w β) {l : List Nat} {xs : List AV} {us : Nat → Value} {qs : List PV} (hx : ∀ (j : Nat) (x : AV), xs[j]? = some x → AR w (Av Γ.X β) β x (us j)) (hl : ∀ k ∈ AV.keysL xs, k ∈ l) (hq : toPVL s.blk xs = some qs)
   {β' : BM} (g3 : ∀ j bj, β' j = some bj → β j = some bj) (g4 : ∀ k ∈ l, FzOK s.blk k → β' k = none) :
   ∀ (j : Nat) (q : PV), qs[j]? = some q → PR w (Av Γ.X β') q (us j) := by
 intro j q hj
 obtain ⟨a, ha, hap⟩ := (toPVL_some hq).2 j q hj
 exact freezes_PR h (hx j a ha) (fun k hk => hl k (AV.mem_keysL.2 ⟨a, List.mem_of_getElem? ha, hk⟩)) hap g3 g4
end
end Go.Avc
/- Stores, addresses of fields and elements, fields and elements of values, integer operations: sound. Conditions: none. -/
namespace Go.Avc
open Go.RowKit
theorem disj_spec : ∀ {l m : List Nat}, disj l m = true → ∀ k ∈ l, k ∉ m
 | [], _, _, k, hk => by cases hk
 | a :: l, m, h, k, hk => by
   simp only [disj] at h
   cases ha : freshIn a m with
   | false => rw [ha] at h; simp at h
   | true =>
     rw [ha] at h
     rcases List.mem_cons.1 hk with rfl | hk
     · exact freshIn_spec ha
     · exact disj_spec (by simpa using h) k hk
section
variable {Γ : Ctx} {s : St} {tm : Array Value} {w : World} {β : BM} {P : Program} {K : Kont}
theorem getD_toList (vs : Array Value) (j : Nat) : vs.toList.getD j undef = vs.getD j undef := by
 simp [List.getD, Array.getD_eq_getD_getElem?]
theorem run_storeVar {t : TypeId} {n : Nat} (hn : szOf P t = some n) {u : Value} (hu : u.cells.size = n) (a : Addr) : (storeVar t a u).run P w = (storeCells a u.cells.toList).run P w := by
 simp [storeVar, run_sizeOf hn, hu]
theorem store_sound (h : Rl Γ s tm w β) {t : TypeId} {x v : AV} {ux uv : Value} (hx : AR w (Av Γ.X β) β x ux) (hv : AR w (Av Γ.X β) β v uv) (hkv : ∀ k ∈ v.keys, k ∈ s.used) {md : Bool} (hK : opStore md P t x v s.blk Γ.fx K) :
   ∃ acts w' β', K .junk acts ∧ (Instr.storeAt t ux uv).run P w = .ok () w' ∧ Rl Γ (s.acts acts) tm w' β' := by
 unfold opStore at hK
 simp only [forceC_eq] at hK
 split at hK
 case h_2 => exact hK.elim
 rename_i k i j
 split at hK
 · exact hK.elim
 rename_i h1
 obtain ⟨hl, hc⟩ := cellsOf_spec h hv (B := s.blk) (fun _ h => h) h1
 obtain ⟨hn, hK⟩ := hK
 have hone : ∀ u ∈ uv.cells.toList, u.oneCell' = true := fun u hu => by
   obtain ⟨y, hy, rfl⟩ := List.getElem_of_mem hu
   have hy' : y < (cellsOf v).length := by rw [← hl]; simpa using hy
   have := (hc y _ (List.getElem?_eq_getElem hy')).2
   rw [Array.getD_eq_getD_getElem?, Array.getElem?_eq_getElem (by simpa using hy)] at this
   simpa using this
 split at hK
 · rename_i cells hs
   obtain ⟨bi, hβ, g1, cs, e, fz, g2, g3, g4, g5, g6⟩ := h.live hs
   split at hK
   · split at hK
     · rename_i cells' hsp
       obtain ⟨q1, q2, q3⟩ := splice_spec hsp
       obtain rfl := hx.loc_inv hβ
       obtain ⟨w', cs', r1, r2, r3, r4, r5, r6, r7, r8, r9⟩ := run_stores P bi.b e fz uv.cells.toList j 0 cs w g2 g3 (by simp; omega) hone
       refine ⟨_, w', β, hK, ?_, ?_⟩
       · simp only [Instr.storeAt, Instr.sureAddr, Sem.run_bind, Sem.run_pure, Result.andThen_ok, run_storeVar hn hl]
         rw [show 0 * bi.sz + j = j from by omega]
         exact r1
       · refine h.upd hβ g1 r5 (fun b hb => r6 b hb) r7 r8 r9 (fun k' hk' => ?_) fun had => ⟨g1, cs', e, fz, r2, fun y hy => g3 y (by omega), by omega, by omega, fun y av hy => ?_⟩
         · simp only [Blk.keys] at hk'
           obtain ⟨a, ha, hka⟩ := AV.mem_keysL.1 hk'
           obtain ⟨y, hy, hya⟩ := List.getElem_of_mem ha
           have hy2 := q3 y
           rw [List.getElem?_eq_getElem hy, hya] at hy2
           split at hy2
           · exact hkv k' (by rw [← cellsOf_keys]; exact AV.mem_keysL.2 ⟨a, List.mem_of_getElem? hy2.symm, hka⟩)
           · refine (h.used2 k _ hs).2 k' ?_
             simp only [Blk.keys]
             exact AV.mem_keysL.2 ⟨a, List.mem_of_getElem? hy2.symm, hka⟩
         · rw [q3 y] at hy
           rw [r4 y]
           simp only [Nat.add_zero, Array.length_toList, hl]
           split at hy
           · rename_i hr
             rw [if_pos hr]
             rw [getD_toList]
             exact ⟨(hc _ av hy).1.mono had fun _ _ => rfl, (hc _ av hy).2⟩
           · rename_i hr
             rw [if_neg hr]
             exact ⟨(g6 y av hy).1.mono had fun _ _ => rfl, (g6 y av hy).2⟩
     · exact hK.elim
   · exact hK.elim
 · rename_i sz rows hs
   split at hK
   case h_2 => exact hK.elim
   rename_i ps hps
   obtain ⟨hpl, _⟩ := toPVL_some hps
   -- both forms: the row's new elements are rows'
   have main : ∀ (rows' : List (List PV)) (o : Nat), rows'.length = rows.length → (∀ (i : Nat) (row : List PV), rows'[i]? = some row → row.length = sz) → o + ps.length ≤ rows.length * sz →
       (∀ (x : Nat) (row : List PV) (y : Nat) (p : PV), rows'[x]? = some row → row[y]? = some p → (o ≤ x * sz + y ∧ x * sz + y < o + ps.length ∧ ps[x * sz + y - o]? = some p) ∨ (¬ (o ≤ x * sz + y ∧ x * sz + y < o + ps.length) ∧ ∃ row0, rows[x]? = some row0 ∧ row0[y]? = some p)) →
       freshIn k (AV.keysL (cellsOf v)) = true → disj (AV.keysL (cellsOf v)) Γ.fx = true → i * sz + j = o → K .junk (fk md (AV.keysL (cellsOf v)) ++ [.set k (.row sz rows')]) →
       ∃ acts w' β', K .junk acts ∧ (Instr.storeAt t ux uv).run P w = .ok () w' ∧ Rl Γ (s.acts acts) tm w' β' := by
     intro rows' o hlen hsz hob hrow hk hd ho hK
     have hkn := freshIn_spec hk
     have hdn := disj_spec hd
     obtain ⟨β1, f1, f2, f3, f4⟩ := fks h md hdn
     have hs1 := fks_blk_row s md hs hkn
     obtain ⟨bi, hβ, hb⟩ := f1.live hs1
     have hβ0 : β k = some bi := by rw [← f2 k hkn]; exact hβ
     obtain rfl := hx.loc_inv hβ0
     obtain ⟨g1, g2, g2', g3, g4⟩ := hb
     rw [g1, ho]
     have hpr := freezes_PRL h (xs := cellsOf v) (us := fun j => uv.cells.getD j undef) (fun j x hj => (hc j x hj).1) (fun k hk => hk) hps f3 f4
     rcases g4 with ⟨_, hr0⟩ | ⟨g4, cs, e, fz, g5, g6, g7, g8, g9⟩
     · -- no element at all: nothing is stored
       have hps0 : ps.length = 0 := by rw [hr0] at hob; simp only [List.length_nil, Nat.zero_mul] at hob; omega
       have hu0 : uv.cells.toList = [] := List.eq_nil_of_length_eq_zero (by rw [Array.length_toList]; omega)
       refine ⟨_, w, β1, hK, ?_, ?_⟩
       · simp only [Instr.storeAt, Instr.sureAddr, Sem.run_bind, Sem.run_pure, Result.andThen_ok, run_storeVar hn hl, hu0]
         rfl
       · rw [acts_append]
         show Rl Γ ((s.acts (fk md _)).set k (.row sz rows')) tm w β1
         have hr' : rows' = [] := List.eq_nil_of_length_eq_zero (by rw [hlen, hr0]; rfl)
         rw [hr']
         rw [hr0] at hs1
         exact { f1 with
           blks := fun y => by
             rw [St.blk_set]
             by_cases e : k = y
             · subst e; rw [if_pos rfl, ← hs1]; exact f1.blks k
             · rw [if_neg e]; exact f1.blks y
           used2 := fun y b hy => by
             rw [St.blk_set] at hy
             by_cases e : k = y
             · subst e; rw [if_pos rfl] at hy; cases hy; exact f1.used2 k _ hs1
             · rw [if_neg e] at hy; exact f1.used2 y b hy }
     · obtain ⟨w', cs', r1, r2, r3, r4, r5, r6, r7, r8, r9⟩ := run_stores P bi.b e fz uv.cells.toList o 0 cs w g5 g6 (by simp; omega) hone
       refine ⟨_, w', β1, hK, ?_, ?_⟩
       · simp only [Instr.storeAt, Instr.sureAddr, Sem.run_bind, Sem.run_pure, Result.andThen_ok, run_storeVar hn hl]
         exact r1
       · rw [acts_append]
         show Rl Γ ((s.acts (fk md _)).set k (.row sz rows')) tm w' β1
         refine f1.upd hβ g4 r5 (fun b hb => r6 b hb) r7 r8 r9 (by simp [Blk.keys]) fun had => ⟨g1, g2, by omega, hsz, .inr ⟨g4, cs', e, fz, r2, fun y hy => g6 y (by omega), by omega, by rw [hlen]; omega, fun x row y p hx hy => ?_⟩⟩
         rw [r4 _]
         simp only [Nat.add_zero, Array.length_toList, hl, ← hpl]
         rcases hrow x row y p hx hy with ⟨c1, c2, c3⟩ | ⟨c1, row0, c2, c3⟩
         · rw [if_pos ⟨c1, c2⟩, getD_toList]
           have hxl : x * sz + y - o < ps.length := by omega
           exact ⟨(hpr _ p c3).mono had, (hc _ _ (List.getElem?_eq_getElem (by omega))).2⟩
         · rw [if_neg c1]
           exact ⟨(g9 x row0 y p c2 c3).1.mono had, (g9 x row0 y p c2 c3).2⟩
   have hb0 := h.live hs
   obtain ⟨bi0, _, _, _, _, hsz0, _⟩ := hb0
   split at hK
   · rename_i p hpo
     obtain ⟨c3, cj, c4, c5, rows', rfl, hK⟩ := hK
     obtain ⟨c1, rfl⟩ := partOf_some hpo
     obtain ⟨row0, hr0⟩ : ∃ row0, rows[i]? = some row0 := ⟨_, List.getElem?_eq_getElem c3⟩
     have hgd : rows.getD i [] = row0 := by rw [List.getD_eq_getElem?_getD, hr0]; rfl
     have hl0 := hsz0 i row0 hr0
     rw [hgd] at hK
     refine main _ (i * sz + j) (by simp) (fun x row hx => ?_) ?_ (fun x row y q hx hy => ?_) c4 c5 rfl hK
     · rw [List.getElem?_set] at hx
       by_cases e : i = x
       · rw [if_pos e, if_pos c3] at hx; cases hx; rw [List.length_set]; exact hl0
       · rw [if_neg e] at hx; exact hsz0 x row hx
     · have : i * sz + sz ≤ rows.length * sz := by rw [← Nat.succ_mul]; exact Nat.mul_le_mul_right _ c3
       simp only [List.length_singleton]
       omega
     · rw [List.getElem?_set] at hx
       simp only [List.length_singleton]
       by_cases e : i = x
       · subst e
         rw [if_pos rfl, if_pos c3] at hx
         cases hx
         rw [List.getElem?_set] at hy
         by_cases ey : j = y
         · subst ey
           rw [if_pos rfl, if_pos (by omega)] at hy
           cases hy
           exact .inl ⟨Nat.le_refl _, by omega, by rw [Nat.sub_self]; rfl⟩
         · rw [if_neg ey] at hy
           exact .inr ⟨fun hh => ey (by omega), row0, hr0, hy⟩
       · have hne := e
         rw [if_neg e] at hx
         refine .inr ⟨fun hh => ?_, row, hx, hy⟩
         have hyl : y < sz := by have := hsz0 x row hx; have := (List.getElem?_eq_some_iff.1 hy).1; omega
         obtain ⟨h2, h3⟩ := hh
         rcases Nat.lt_or_gt_of_ne hne with hlt | hgt
         · have : i * sz + sz ≤ x * sz := by rw [← Nat.succ_mul]; exact Nat.mul_le_mul_right _ hlt
           omega
         · have : x * sz + sz ≤ i * sz := by rw [← Nat.succ_mul]; exact Nat.mul_le_mul_right _ hgt
           omega
   rcases hK with ⟨c1, rfl, c3, c4, c5, hK⟩ | ⟨rfl, rfl, rfl, c3, c4, c5, hK⟩
   · refine main _ (i * sz) (by simp) (fun x row hx => ?_) ?_ (fun x row y p hx hy => ?_) c4 c5 (by omega) hK
     · rw [List.getElem?_set] at hx
       by_cases e : i = x
       · rw [if_pos e, if_pos c3] at hx; cases hx; exact c1
       · rw [if_neg e] at hx; exact hsz0 x row hx
     · have : i * sz + sz ≤ rows.length * sz := by rw [← Nat.succ_mul]; exact Nat.mul_le_mul_right _ c3
       omega
     · rw [List.getElem?_set] at hx
       by_cases e : i = x
       · subst e
         rw [if_pos rfl, if_pos c3] at hx
         cases hx
         have hyl : y < ps.length := (List.getElem?_eq_some_iff.1 hy).1
         exact .inl ⟨by omega, by omega, by rw [show i * sz + y - i * sz = y from by omega]; exact hy⟩
       · have hne := e
         rw [if_neg e] at hx
         refine .inr ⟨fun hh => ?_, row, hx, hy⟩
         have hyl : y < sz := by have := hsz0 x row hx; have := (List.getElem?_eq_some_iff.1 hy).1; omega
         rw [c1] at hh
         obtain ⟨h2, h3⟩ := hh
         rcases Nat.lt_or_gt_of_ne hne with hlt | hgt
         · have : i * sz + sz ≤ x * sz := by rw [← Nat.succ_mul]; exact Nat.mul_le_mul_right _ hlt
           omega
         · have : x * sz + sz ≤ i * sz := by rw [← Nat.succ_mul]; exact Nat.mul_le_mul_right _ hgt
           omega
   · refine main _ 0 (by simp [singles]; omega) (fun x row hx => by obtain ⟨p, _, rfl⟩ := mem_singles hx; rfl) (by omega) (fun x row y p hx hy => ?_) c4 c5 (by omega) hK
     obtain ⟨q, hq, rfl⟩ := mem_singles hx
     cases y with
     | succ y => simp at hy
     | zero =>
       simp only [List.getElem?_cons_zero, Option.some.injEq] at hy
       subst hy
       have := (List.getElem?_eq_some_iff.1 hq).1
       exact .inl ⟨by omega, by omega, by simpa using hq⟩
 · exact hK.elim
end
end Go.Avc
/- Addresses, parts of values, arithmetic, comparisons, lengths: what they do, and that the model does so. Conditions: none. -/
namespace Go.Avc
open Go.RowKit
def fieldOf (P : Program) (t : TypeId) (f : Nat) : Option Field := match P.underlying t with
 | some (.struct fs) => nth fs.toList f
 | _ => none
def opFieldAddr (P : Program) (t : TypeId) (x : AV) (f : Nat) (blk : Nat → Option Blk) (K : Kont) : Prop :=
 match fieldOf P t f with
 | none => False
 | some fd => match szOf P fd.type with
   | some (_ + 1) => match x with
     | .loc k i j => match blk k with
       | some _ => K (.loc k i (j + fd.offset)) []
       | none => False
     | .pure (.ptr cs) => K (.pure (.ptr (dropN fd.offset cs))) []
     | _ => False
   | _ => False
def opIndexAddr (P : Program) (t : TypeId) (x ix : AV) (blk : Nat → Option Blk) (K : Kont) : Prop :=
 match ix with
 | .pure (.val (.int _ n)) => match P.underlying t with
   | some (.slice e) => match szOf P e with
     | none => False
     | some z => match x with
       | .lsl k i m => match blk k with
         | some (.row sz _) => match Nat.beq z sz with
           | true => 0 ≤ n ∧ n < (m : Int) ∧ K (.loc k (i + n.toNat) 0) []
           | false => False
         | some (.box _) => z = 1 ∧ i = 0 ∧ 0 ≤ n ∧ n < (m : Int) ∧ K (.loc k 0 n.toNat) []
         | _ => False
       | .pure (.sl sz rows) => match Nat.beq z sz with
         | true => 0 ≤ n ∧ ∃ row, rows[n.toNat]? = some row ∧ K (.pure (.ptr row)) []
         | false => False
       | _ => False
   | some (.array len e) => match szOf P e with
     | none => False
     | some z => match x with
       | .loc k i j => match blk k with
         | some (.row sz _) => z = sz ∧ i = 0 ∧ j = 0 ∧ 0 ≤ n ∧ n < (len : Int) ∧ K (.loc k n.toNat 0) []
         | some (.box _) => 0 ≤ n ∧ n < (len : Int) ∧ K (.loc k i (j + n.toNat * z)) []
         | _ => False
       | .pure (.ptr cs) => 0 ≤ n ∧ n < (len : Int) ∧ K (.pure (.ptr (cs.drop (n.toNat * z)))) []
       | .pure (.par sz rows) => match Nat.beq z sz with
         | true => (0 ≤ n ∧ n < (len : Int)) ∧ ∃ row, rows[n.toNat]? = some row ∧ K (.pure (.ptr row)) []
         | false => False
       | .pure (.val (.pointer (some ⟨g, 0, none⟩))) => ∃ rows, globAt P g = some (z, rows) ∧ (0 ≤ n ∧ n < (len : Int)) ∧ ∃ row, rows[n.toNat]? = some row ∧ K (.pure (.ptr row)) []
       | _ => False
   | _ => False
 | _ => False
def opField (P : Program) (t : TypeId) (x : AV) (f : Nat) (K : Kont) : Prop :=
 match fieldOf P t f with
 | none => False
 | some fd => match x with
   | .agg cs => getCells P fd.type cs fd.offset K
   | .pure (.agg cs) => getCells P fd.type (pures cs) fd.offset K
   | _ => False
def opIndex (P : Program) (t : TypeId) (x ix : AV) (K : Kont) : Prop :=
 match ix with
 | .pure (.val (.int _ n)) => match P.underlying t with
   | some (.array len e) => match aggOf P e with
     | some false => szOf P e = some 1 ∧ 0 ≤ n ∧ n < (len : Int) ∧ ∃ v, (cellsOf x)[n.toNat]? = some v ∧ (∃ cs, x = .agg cs ∨ ∃ ps, x = .pure (.agg ps) ∧ cs = pures ps) ∧ K v []
     | _ => False
   | some .string => match x with
     | .pure (.val (.string b)) => 0 ≤ n ∧ ∃ c, b.data[n.toNat]? = some c ∧ K (.pure (.val (.int .u8 (c.toNat : Int)))) []
     | _ => False
   | _ => False
 | _ => False
def kEq (a b : IntKind) : Bool := match a with
 | .i8 => (match b with | .i8 => true | _ => false)
 | .i16 => (match b with | .i16 => true | _ => false)
 | .i32 => (match b with | .i32 => true | _ => false)
 | .i64 => (match b with | .i64 => true | _ => false)
 | .u8 => (match b with | .u8 => true | _ => false)
 | .u16 => (match b with | .u16 => true | _ => false)
 | .u32 => (match b with | .u32 => true | _ => false)
 | .u64 => (match b with | .u64 => true | _ => false)
theorem kEq_spec {a b : IntKind} (h : kEq a b = true) : a = b := by cases a <;> cases b <;> first | rfl | cases h
def intBin (op : BinOp) (k k' : IntKind) (a b : Int) (K : Value → Prop) : Prop :=
 match op with
 | .shl => 0 ≤ b ∧ ∃ r, k.wrap (a * 2 ^ (min b.toNat k.bits)) = r ∧ K (.int k r)
 | .shr => 0 ≤ b ∧ ∃ r, a.fdiv (2 ^ (min b.toNat k.bits)) = r ∧ K (.int k r)
 | op => match kEq k k' with
  | false => False
  | true => match op with
   | .add => ∃ r, k.wrap (a + b) = r ∧ K (.int k r)
   | .sub => ∃ r, k.wrap (a - b) = r ∧ K (.int k r)
   | .mul => ∃ r, k.wrap (a * b) = r ∧ K (.int k r)
   | .quo => b ≠ 0 ∧ ∃ r, k.wrap (a.tdiv b) = r ∧ K (.int k r)
   | .rem => b ≠ 0 ∧ ∃ r, a.tmod b = r ∧ K (.int k r)
   | .and => ∃ r, bits .and k a b = r ∧ K (.int k r)
   | .or => ∃ r, bits .or k a b = r ∧ K (.int k r)
   | .xor => ∃ r, bits .xor k a b = r ∧ K (.int k r)
   | .andNot => ∃ r, bits .andNot k a b = r ∧ K (.int k r)
   | .eql => K (.bool (decide (a = b)))
   | .neq => K (.bool (!decide (a = b)))
   | .lss => K (.bool (decide (a < b)))
   | .leq => K (.bool (decide (a ≤ b)))
   | .gtr => K (.bool (decide (b < a)))
   | .geq => K (.bool (decide (b ≤ a)))
   | _ => False
def strBin (op : BinOp) (a b : ByteArray) (K : Value → Prop) : Prop :=
 match op with
 | .eql => K (.bool (decide (a = b)))
 | .neq => K (.bool (!decide (a = b)))
 | .add => a.size + b.size ≤ 9223372036854775807 ∧ K (.string (a ++ b))
 | .lss => K (.bool (Op.bytesLess a.data.toList b.data.toList))
 | _ => False
def valsOf : List AV → Option (List Value)
 | [] => some []
 | .pure (.val v) :: l => (valsOf l).map (v :: ·)
 | _ :: _ => none
def aggEq (P : Program) (t : TypeId) (xs ys : Array Value) (r : Bool) : Prop :=
 ∀ w, (eqGuard .eql t (.tmp 0) (.tmp 0) (.agg xs) (.agg ys)).run P w = .ok () w ∧ (Op.equal t (.agg xs) (.agg ys)).run P w = .ok r w
def isNil : AV → Bool
 | .pure (.val (.slice none 0 0)) => true
 | _ => false
def isPNil : AV → Bool
 | .pure (.val (.pointer none)) => true
 | _ => false
def ptrNil (P : Program) (op : BinOp) (t : TypeId) (x : AV) (K : Kont) : Prop := match P.underlying t with
 | some (.pointer _) => match x with
   | .pure (.ptr _) => match op with
     | .eql => K (.pure (.val (.bool false))) []
     | .neq => K (.pure (.val (.bool true))) []
     | _ => False
   | .pure (.val (.pointer none)) => match op with
     | .eql => K (.pure (.val (.bool true))) []
     | .neq => K (.pure (.val (.bool false))) []
     | _ => False
   | _ => False
 | _ => False
def opBin (P : Program) (op : BinOp) (t : TypeId) (x y : AV) (K : Kont) : Prop :=
 match x, y with
 | .pure (.val (.int k a)), .pure (.val (.int k' b)) => intBin op k k' a b fun v => K (.pure (.val v)) []
 | .pure (.val (.string a)), .pure (.val (.string b)) => strBin op a b fun v => K (.pure (.val v)) []
 | .pure (.val (.bool a)), .pure (.val (.bool b)) => match P.underlying t with
   | some .bool => match op with
     | .eql => K (.pure (.val (.bool (a == b)))) []
     | .neq => K (.pure (.val (.bool (a != b)))) []
     | _ => False
   | _ => False
 | x, y => match isNil y with
   | true => match P.underlying t with
     | some (.slice _) => match x with
       | .pure (.sl _ rows) => match op with
         | .eql => ∀ r, (r = true → rows = []) → K (.pure (.val (.bool r))) []
         | .neq => ∀ r, (r = false → rows = []) → K (.pure (.val (.bool r))) []
         | _ => False
       | .pure (.val (.slice none _ _)) => match op with
         | .eql => K (.pure (.val (.bool true))) []
         | .neq => K (.pure (.val (.bool false))) []
         | _ => False
       | .lsl _ _ n => match op with
         | .eql => ∀ r, (r = true → n = 0) → K (.pure (.val (.bool r))) []
         | .neq => ∀ r, (r = false → n = 0) → K (.pure (.val (.bool r))) []
         | _ => False
       | _ => False
     | _ => False
   | false => match isPNil y with
    | true => ptrNil P op t x K
    | false => match valsOf (cellsOf x), valsOf (cellsOf y) with
     | some xs, some ys => match op with
       | .eql => ∃ r, aggEq P t xs.toArray ys.toArray r ∧ (∃ c, x = .agg c ∨ ∃ d, x = .pure (.agg d) ∧ c = pures d) ∧ (∃ c, y = .agg c ∨ ∃ d, y = .pure (.agg d) ∧ c = pures d) ∧ K (.pure (.val (.bool r))) []
       | .neq => ∃ r, aggEq P t xs.toArray ys.toArray r ∧ (∃ c, x = .agg c ∨ ∃ d, x = .pure (.agg d) ∧ c = pures d) ∧ (∃ c, y = .agg c ∨ ∃ d, y = .pure (.agg d) ∧ c = pures d) ∧ K (.pure (.val (.bool !r))) []
       | _ => False
     | _, _ => False
def opUn (op : UnOp) (x : AV) (K : Kont) : Prop :=
 match x with
 | .pure (.val (.bool b)) => match op with
   | .not => K (.pure (.val (.bool !b))) []
   | _ => False
 | .pure (.val (.int k n)) => match op with
   | .neg => ∃ r, k.wrap (0 - n) = r ∧ K (.pure (.val (.int k r))) []
   | .xor => ∃ r, bits .xor k (if k.signed then -1 else k.max) n = r ∧ K (.pure (.val (.int k r))) []
   | _ => False
 | _ => False
def opPick (c a b : AV) (K : Kont) : Prop :=
 match c with
 | .pure (.val (.bool t)) => bsel t (force a K) (force b K)
 | _ => False
def opExtract (x : AV) (i : Nat) (K : Kont) : Prop :=
 match x with
 | .tup cs => match nth cs i with
   | some v => K v []
   | none => False
 | .pure (.tup cs) => match nth cs i with
   | some p => K (.pure p) []
   | none => False
 | _ => False
def opLen (P : Program) (t : TypeId) (x : AV) (K : Kont) : Prop :=
 match P.underlying t with
 | some (.slice _) => match x with
   | .lsl _ _ n => K (.int n) []
   | .pure (.sl _ rows) => K (.int rows.length) []
   | .pure (.val (.slice _ n _)) => K (.int n) []
   | _ => False
 | some .string => match x with
   | .pure (.val (.string b)) => K (.int b.size) []
   | _ => False
 | some (.array n _) => K (.int n) []
 | some (.map _ _) => match x with
   | .pure (.mp ks _) => K (.int ks.length) []
   | _ => False
 | _ => False
def lenLiveB (x : AV) (blk : Nat → Option Blk) : Bool := match x with
 | .lsl k _ _ => (blk k).isSome
 | _ => true
def lenLive (x : AV) (blk : Nat → Option Blk) : Prop := lenLiveB x blk = true
section
variable {Γ : Ctx} {s : St} {tm : Array Value} {w : World} {β : BM} {P : Program} {K : Kont}
theorem add_add (a : Addr) (i j : Nat) : (a.add i).add j = a.add (i + j) := by
 unfold Addr.add
 by_cases hi : i = 0 <;> by_cases hj : j = 0 <;> simp [hi, hj, Nat.add_assoc]
theorem PR.ptr_drop {A : Nat → Prop} {cs : List PV} {a : Addr} (h : PR w A (.ptr cs) (.pointer (some a))) (o : Nat) : PR w A (.ptr (cs.drop o)) (.pointer (some (a.add o))) := by
 cases h with
 | ptr _ _ us hb hr hp =>
   refine .ptr _ _ (fun j => us (o + j)) (fun hn => ?_) (fun j p hj => ?_) (fun j p hj => ?_)
   · rw [block_add]
     rw [List.length_drop] at hn
     exact hb (by omega)
   · rw [List.getElem?_drop] at hj
     rw [add_add]
     exact hr _ p hj
   · rw [List.getElem?_drop] at hj
     exact hp _ p hj
theorem fieldOf_some {t : TypeId} {f : Nat} {fd : Field} (h : fieldOf P t f = some fd) : ∃ fs, P.underlying t = some (.struct fs) ∧ fs[f]? = some fd := by
 unfold fieldOf at h
 split at h
 · rename_i fs hfs
   rw [nth_eq, Array.getElem?_toList] at h
   exact ⟨fs, hfs, h⟩
 · cases h
theorem run_fieldAt {t : TypeId} {f : Nat} {fd : Field} (h : fieldOf P t f = some fd) {n : Nat} (hn : szOf P fd.type = some (n + 1)) (a : Addr) : (Instr.fieldAt t (.pointer (some a)) f).run P w = .ok (.pointer (some (a.add fd.offset))) w := by
 obtain ⟨fs, h1, h2⟩ := fieldOf_some h
 simp [Instr.fieldAt, run_underlying h1, h2, Instr.sureAddr, fieldPlace, run_sizeOf hn]
theorem fieldAddr_sound (h : Rl Γ s tm w β) {t : TypeId} {x : AV} {u : Value} {f : Nat} (hx : AR w (Av Γ.X β) β x u) (hkx : ∀ k ∈ x.keys, k ∈ s.used) (hK : opFieldAddr P t x f s.blk K) : Out Γ s tm K ((Instr.fieldAt t u f).run P w) := by
 unfold opFieldAddr at hK
 split at hK
 · exact hK.elim
 rename_i fd hfd
 split at hK
 case h_2 => exact hK.elim
 rename_i n hn
 split at hK
 · rename_i k i j
   split at hK
   · rename_i b hs
     obtain ⟨bi, hβ, _⟩ := h.live hs
     obtain rfl := hx.loc_inv hβ
     refine Out.same h hK (run_fieldAt hfd hn _) ?_ hkx
     rw [Addr.add_lit, Nat.add_assoc]
     exact .loc _ _ _ _ hβ
   · exact hK.elim
 · rename_i cs
   cases hx with
   | pure _ _ hp =>
     have hp' := hp
     cases hp with
     | ptr _ a us hb hr hp =>
       refine Out.same h hK (run_fieldAt hfd hn _) ?_ (by simp [AV.keys])
       rw [dropN_eq]
       exact .pure _ _ (hp'.ptr_drop _)
 · exact hK.elim
theorem PR.ptr_of_row {A : Nat → Prop} {sz : Nat} {rows : List (List PV)} {u : Value} (h : PR w A (.sl sz rows) u) {i : Nat} {row : List PV} (hi : rows[i]? = some row) :
   ∃ a cap, u = .slice (some a) rows.length cap ∧ PR w A (.ptr row) (.pointer (some (a.add (i * sz)))) := by
 cases h with
 | slnil => simp at hi
 | sl _ _ a cap us hc hm hsz hb hl hr hp =>
   refine ⟨a, cap, rfl, .ptr _ _ (us i) (fun _ => ?_) (fun j p hj => ?_) fun j p hj => hp i row j p hi hj⟩
   · rw [block_add]
     exact hb (by have := (List.getElem?_eq_some_iff.1 hi).1; omega)
   · rw [add_add]
     exact hr i row j p hi hj
theorem PR.ptr_of_par {A : Nat → Prop} {sz : Nat} {rows : List (List PV)} {a : Addr} (h : PR w A (.par sz rows) (.pointer (some a))) {i : Nat} {row : List PV} (hi : rows[i]? = some row) :
   PR w A (.ptr row) (.pointer (some (a.add (i * sz)))) := by
 cases h with
 | par _ _ _ us hsz hb hl hr hp =>
   refine .ptr _ _ (us i) (fun _ => ?_) (fun j p hj => ?_) fun j p hj => hp i row j p hi hj
   · rw [block_add]
     exact hb (by have := (List.getElem?_eq_some_iff.1 hi).1; omega)
   · rw [add_add]
     exact hr i row j p hi hj
theorem indexAddr_sound (h : Rl Γ s tm w β) {t : TypeId} {x ix : AV} {u ui : Value} (hx : AR w (Av Γ.X β) β x u) (hi : AR w (Av Γ.X β) β ix ui) (hkx : ∀ k ∈ x.keys, k ∈ s.used) (hK : opIndexAddr P t x ix s.blk K) (hP : P = Γ.P := by rfl) :
   Out Γ s tm K ((Instr.indexAt t u ui).run P w) := by
 unfold opIndexAddr at hK
 split at hK
 case h_2 => exact hK.elim
 rename_i ik n
 cases hi with
 | pure _ _ hip =>
 cases hip with
 | val _ =>
 split at hK
 · rename_i e ht
   split at hK
   · exact hK.elim
   rename_i z hz
   split at hK
   · rename_i k i m
     split at hK
     · rename_i sz rows hs
       split at hK
       case h_2 => exact hK.elim
       rename_i hz1
       obtain rfl := Nat.eq_of_beq_eq_true hz1
       obtain ⟨h0, hlt, hK⟩ := hK
       obtain ⟨bi, hβ, hb⟩ := h.live hs
       have hbz := hb.1
       cases hx with
       | lsl _ _ _ bi' cap hb' hv hn hc hil hm =>
         rw [hβ] at hb'; cases hb'
         refine Out.same h hK (u := .pointer (some ⟨bi.b, (i + n.toNat) * bi.sz + 0, none⟩)) ?_ ?_ hkx
         · simp only [Instr.indexAt, asIntOf, Sem.run_bind, Sem.run_pure, Result.andThen_ok, run_underlying ht, if_pos (And.intro h0 hlt), run_sizeOf hz, Addr.add_lit, hbz]
           rw [Nat.add_mul, Nat.add_zero]
         · exact .loc _ _ _ _ hβ
       | lslV => simp at hlt; omega
       | lslDead _ _ _ _ hd => rw [hβ] at hd; cases hd
     · rename_i cells hs
       obtain ⟨rfl, rfl, h0, hlt, hK⟩ := hK
       obtain ⟨bi, hβ, hb⟩ := h.live hs
       cases hx with
       | lsl _ _ _ bi' cap hb' hv hn hc hil hm =>
         rw [hβ] at hb'; cases hb'
         refine Out.same h hK (u := .pointer (some ⟨bi.b, 0 * bi.sz + n.toNat, none⟩)) ?_ (.loc _ _ _ _ hβ) hkx
         simp only [Instr.indexAt, asIntOf, Sem.run_bind, Sem.run_pure, Result.andThen_ok, run_underlying ht, if_pos (And.intro h0 hlt), run_sizeOf hz, Addr.add_lit, Nat.mul_one]
       | lslV => simp at hlt; omega
       | lslDead _ _ _ _ hd => rw [hβ] at hd; cases hd
     · exact hK.elim
   · rename_i sz rows
     split at hK
     case h_2 => exact hK.elim
     rename_i hz1
     obtain rfl := Nat.eq_of_beq_eq_true hz1
     obtain ⟨h0, row, hrow, hK⟩ := hK
     cases hx with
     | pure _ _ hp =>
     obtain ⟨a, cap, rfl, hp'⟩ := hp.ptr_of_row hrow
     have hlt : n < (rows.length : Int) := by have := (List.getElem?_eq_some_iff.1 hrow).1; omega
     refine Out.same h hK ?_ (.pure _ _ hp') (by simp [AV.keys])
     simp only [Instr.indexAt, asIntOf, Sem.run_bind, Sem.run_pure, Result.andThen_ok, run_underlying ht, if_pos (And.intro h0 hlt), run_sizeOf hz]
   · exact hK.elim
 · rename_i len e ht
   split at hK
   · exact hK.elim
   rename_i z hz
   split at hK
   · rename_i k i j
     split at hK
     · rename_i sz rows hs
       obtain ⟨rfl, rfl, rfl, h0, hlt, hK⟩ := hK
       obtain ⟨bi, hβ, hb⟩ := h.live hs
       have hbz := hb.1
       obtain rfl := hx.loc_inv hβ
       refine Out.same h hK (u := .pointer (some ⟨bi.b, n.toNat * bi.sz + 0, none⟩)) ?_ (.loc _ _ _ _ hβ) hkx
       simp only [Instr.indexAt, asIntOf, Sem.run_bind, Sem.run_pure, Result.andThen_ok, run_underlying ht, Instr.sureAddr, if_pos (And.intro h0 hlt), run_sizeOf hz, Addr.add_lit, hbz]
       simp
     · rename_i cells hs
       obtain ⟨h0, hlt, hK⟩ := hK
       obtain ⟨bi, hβ, hb⟩ := h.live hs
       obtain rfl := hx.loc_inv hβ
       refine Out.same h hK (u := .pointer (some ⟨bi.b, i * bi.sz + (j + n.toNat * z), none⟩)) ?_ (.loc _ _ _ _ hβ) hkx
       simp only [Instr.indexAt, asIntOf, Sem.run_bind, Sem.run_pure, Result.andThen_ok, run_underlying ht, Instr.sureAddr, if_pos (And.intro h0 hlt), run_sizeOf hz, Addr.add_lit, Nat.add_assoc]
     · exact hK.elim
   · rename_i cs
     obtain ⟨h0, hlt, hK⟩ := hK
     cases hx with
     | pure _ _ hp =>
     have hp' := hp
     cases hp with
     | ptr _ a us hb hr hp =>
     refine Out.same h hK ?_ (.pure _ _ (hp'.ptr_drop _)) (by simp [AV.keys])
     simp only [Instr.indexAt, asIntOf, Sem.run_bind, Sem.run_pure, Result.andThen_ok, run_underlying ht, Instr.sureAddr, if_pos (And.intro h0 hlt), run_sizeOf hz]
   · rename_i sz rows
     split at hK
     case h_2 => exact hK.elim
     rename_i hz1
     obtain rfl := Nat.eq_of_beq_eq_true hz1
     obtain ⟨⟨h0, hlt⟩, row, hrow, hK⟩ := hK
     cases hx with
     | pure _ _ hp =>
     have hp' := hp
     cases hp with
     | par _ _ a us hsz hb hl hr hp =>
     refine Out.same h hK ?_ (.pure _ _ (hp'.ptr_of_par hrow)) (by simp [AV.keys])
     simp only [Instr.indexAt, asIntOf, Sem.run_bind, Sem.run_pure, Result.andThen_ok, run_underlying ht, Instr.sureAddr, if_pos (And.intro h0 hlt), run_sizeOf hz]
   · rename_i g
     obtain ⟨rows, hg, ⟨h0, hlt⟩, row, hrow, hK⟩ := hK
     subst hP
     have hp := h.glob _ _ _ hg
     cases hx with
     | pure _ _ hx =>
     cases hx with
     | val _ =>
     have hp' := hp
     cases hp with
     | par _ _ a us hsz hb hl hr hp =>
     refine Out.same h hK ?_ (.pure _ _ (hp'.ptr_of_par hrow)) (by simp [AV.keys])
     simp only [Instr.indexAt, asIntOf, Sem.run_bind, Sem.run_pure, Result.andThen_ok, run_underlying ht, Instr.sureAddr, if_pos (And.intro h0 hlt), run_sizeOf hz]
   · exact hK.elim
 · exact hK.elim
theorem part_sound (h : Rl Γ s tm w β) {t : TypeId} {cells : List AV} {vs : Array Value} {j : Nat} (hl : vs.size = cells.length) (hc : ∀ (j : Nat) (p : AV), cells[j]? = some p → AR w (Av Γ.X β) β p (vs.getD j undef) ∧ ∀ k ∈ p.keys, k ∈ s.used)
   (hK : getCells P t cells j K) : Out Γ s tm K ((part t vs j).run P w) := by
 unfold getCells at hK
 simp only [forceC_eq] at hK
 split at hK
 · rename_i ha
   split at hK
   · rename_i n hn
     split at hK
     · rename_i cs hcs
       obtain ⟨h1, rfl⟩ := takeN_eq _ _ _ hcs
       rw [dropN_eq] at h1 hK
       rw [List.length_drop] at h1
       refine Out.same h hK (u := .agg (vs.extract j (j + n))) ?_ ?_ ?_
       · simp [part, aggOf_some ha, run_sizeOf hn]
       · refine .agg _ _ (by simp; omega) fun i p hp => ?_
         have hi : i < n := by have := (List.getElem?_eq_some_iff.1 hp).1; simp at this; omega
         rw [List.getElem?_take, if_pos hi, List.getElem?_drop] at hp
         have := (hc _ p hp).1
         have hjl : j + i < vs.size := by have := (List.getElem?_eq_some_iff.1 hp).1; omega
         have e : (vs.extract j (j + n)).getD i undef = vs.getD (j + i) undef := by
           rw [Array.getD_eq_getD_getElem?, Array.getD_eq_getD_getElem?, Array.getElem?_extract, if_pos (by omega)]
         rw [e]
         exact this
       · intro k hk
         simp only [AV.keys] at hk
         obtain ⟨a, ha', hka⟩ := AV.mem_keysL.1 hk
         have ha'' : a ∈ cells := List.mem_of_mem_drop (List.mem_of_mem_take ha')
         obtain ⟨i, hi, hia⟩ := List.getElem_of_mem ha''
         exact (hc i a (by rw [List.getElem?_eq_getElem hi, hia])).2 k hka
     · exact hK.elim
   · exact hK.elim
 · rename_i ha
   split at hK
   · rename_i v hv
     rw [nth_eq] at hv
     obtain ⟨h1, h2⟩ := hc j v hv
     have hj : j < vs.size := by have := (List.getElem?_eq_some_iff.1 hv).1; omega
     refine Out.same h hK (u := vs.getD j undef) ?_ h1 h2
     simp [part, aggOf_some ha, hj]
   · exact hK.elim
 · exact hK.elim
theorem field_sound (h : Rl Γ s tm w β) {t : TypeId} {x : AV} {u : Value} {f : Nat} (hx : AR w (Av Γ.X β) β x u) (hkx : ∀ k ∈ x.keys, k ∈ s.used) (hK : opField P t x f K) : Out Γ s tm K ((Instr.field t u f).run P w) := by
 unfold opField at hK
 split at hK
 · exact hK.elim
 rename_i fd hfd
 obtain ⟨fs, h1, h2⟩ := fieldOf_some hfd
 split at hK
 · rename_i cs
   cases hx with
   | agg _ vs hl hp =>
     have := part_sound h (j := fd.offset) hl (fun j p hj => ⟨hp j p hj, fun k hk => hkx k (by simp only [AV.keys]; exact AV.mem_keysL.2 ⟨p, List.mem_of_getElem? hj, hk⟩)⟩) hK
     simpa [Instr.field, run_underlying h1, h2, asAgg] using this
 · rename_i cs
   cases hx with
   | pure _ _ hp =>
   cases hp with
   | agg _ vs hl hp =>
     have := part_sound h (j := fd.offset) (cells := pures cs) (vs := vs) (by simp [pures, hl]) (fun j p hj => by
       obtain ⟨q, hq, rfl⟩ := pures_get hj
       exact ⟨.pure _ _ (hp j q hq), by simp [AV.keys]⟩) hK
     simpa [Instr.field, run_underlying h1, h2, asAgg] using this
 · exact hK.elim
theorem index_sound (h : Rl Γ s tm w β) {t : TypeId} {x ix : AV} {u ui : Value} (hx : AR w (Av Γ.X β) β x u) (hi : AR w (Av Γ.X β) β ix ui) (hkx : ∀ k ∈ x.keys, k ∈ s.used) (hK : opIndex P t x ix K) :
   Out Γ s tm K ((Instr.index t u ui).run P w) := by
 unfold opIndex at hK
 split at hK
 case h_2 => exact hK.elim
 rename_i ik n
 cases hi with
 | pure _ _ hip =>
 cases hip with
 | val _ =>
 split at hK
 · rename_i len e ht
   split at hK
   case h_2 => exact hK.elim
   rename_i ha
   obtain ⟨hz, h0, hlt, v, hv, ⟨cs, hcs⟩, hK⟩ := hK
   have main : ∀ (cells : List AV) (vs : Array Value), cellsOf x = cells → u = .agg vs → vs.size = cells.length → (∀ (j : Nat) (p : AV), cells[j]? = some p → AR w (Av Γ.X β) β p (vs.getD j undef)) → Out Γ s tm K ((Instr.index t u (.int ik n)).run P w) := by
     rintro cells vs e1 rfl hl hp
     rw [e1] at hv
     have hj : n.toNat < vs.size := by have := (List.getElem?_eq_some_iff.1 hv).1; omega
     refine Out.same h hK (u := vs.getD n.toNat undef) ?_ (hp _ v hv) fun k hk => hkx k ?_
     · simp only [Instr.index, asIntOf, Sem.run_bind, Sem.run_pure, Result.andThen_ok, run_underlying ht, if_pos (And.intro h0 hlt), run_sizeOf hz]
       simp [part, aggOf_some ha, hj]
     · rw [← cellsOf_keys, e1]
       exact AV.mem_keysL.2 ⟨v, List.mem_of_getElem? hv, hk⟩
   rcases hcs with rfl | ⟨ps, rfl, rfl⟩
   · cases hx with
     | agg _ vs hl hp => exact main _ vs rfl rfl hl hp
   · cases hx with
     | pure _ _ hp =>
     cases hp with
     | agg _ vs hl hp =>
       exact main (pures ps) vs rfl rfl (by simp [pures, hl]) fun j p hj => by
         obtain ⟨q, hq, rfl⟩ := pures_get hj
         exact .pure _ _ (hp j q hq)
 · rename_i ht
   split at hK
   · rename_i b
     obtain ⟨h0, c, hc, hK⟩ := hK
     cases hx with
     | pure _ _ hp =>
     cases hp with
     | val _ =>
     refine Out.same h hK ?_ (.pure _ _ (.val _)) (by simp [AV.keys])
     have hsz : n.toNat < b.size := (Array.getElem?_eq_some_iff.1 hc).1
     have hget : b[n.toNat]? = some c := by
       rw [getElem?_pos b n.toNat hsz]
       have := (Array.getElem?_eq_some_iff.1 hc).2
       exact congrArg some this
     simp [Instr.index, asIntOf, run_underlying ht, h0, hget]
   · exact hK.elim
 · exact hK.elim
end
end Go.Avc
/- Arithmetic, comparisons, choices, tuples, lengths: sound. Conditions: none. -/
namespace Go.Avc
open Go.RowKit
section
variable {Γ : Ctx} {s : St} {tm : Array Value} {w : World} {β : BM} {P : Program} {K : Kont}
theorem Out.val (h : Rl Γ s tm w β) {v : Value} (hK : K (.pure (.val v)) []) {r : Result Value} (hr : r = .ok v w) : Out Γ s tm K r :=
 Out.same h hK hr (.pure _ _ (.val _)) (by simp [AV.keys])
def binRun (op : BinOp) (t : TypeId) (x y : Operand) (u v : Value) : Sem Value := do eqGuard op t x y u v; binOp op t u v
theorem intBin_sound (h : Rl Γ s tm w β) {op : BinOp} {t : TypeId} {x y : Operand} {k k' : IntKind} {a b : Int} (hK : intBin op k k' a b fun v => K (.pure (.val v)) []) :
   Out Γ s tm K ((binRun op t x y (.int k a) (.int k' b)).run P w) := by
 unfold intBin at hK
 unfold binRun
 simp only [eqGuard_at_int, Sem.run_bind, Sem.run_pure, Result.andThen_ok]
 split at hK
 · obtain ⟨h0, r, rfl, hK⟩ := hK
   exact Out.val h hK (by simp [binOp, Op.shift, show ¬ b < 0 from by omega])
 · obtain ⟨h0, r, rfl, hK⟩ := hK
   exact Out.val h hK (by simp [binOp, Op.shift, show ¬ b < 0 from by omega])
 · split at hK
   · exact hK.elim
   rename_i hk
   obtain rfl := kEq_spec hk
   split at hK
   · obtain ⟨r, rfl, hK⟩ := hK
     exact Out.val h hK (by simp [binOp, Op.intArith])
   · obtain ⟨r, rfl, hK⟩ := hK
     exact Out.val h hK (by simp [binOp, Op.intArith])
   · obtain ⟨r, rfl, hK⟩ := hK
     exact Out.val h hK (by simp [binOp, Op.intArith])
   · obtain ⟨h0, r, rfl, hK⟩ := hK
     exact Out.val h hK (by simp [binOp, Op.intDiv, h0])
   · obtain ⟨h0, r, rfl, hK⟩ := hK
     exact Out.val h hK (by simp [binOp, Op.intDiv, h0])
   · obtain ⟨r, rfl, hK⟩ := hK
     exact Out.val h hK (by simp [binOp, intBits_and])
   · obtain ⟨r, rfl, hK⟩ := hK
     exact Out.val h hK (by simp [binOp, intBits_or])
   · obtain ⟨r, rfl, hK⟩ := hK
     exact Out.val h hK (by simp [binOp, intBits_xor])
   · obtain ⟨r, rfl, hK⟩ := hK
     exact Out.val h hK (by simp [binOp, intBits_andNot])
   · exact Out.val h hK (by simp [binOp, Op.intCmp]; rfl)
   · exact Out.val h hK (by simp [binOp, Op.intCmp]; rfl)
   · exact Out.val h hK (by simp [binOp, Op.intCmp])
   · exact Out.val h hK (by simp [binOp, Op.intCmp])
   · exact Out.val h hK (by simp [binOp, Op.intCmp])
   · exact Out.val h hK (by simp [binOp, Op.intCmp])
   · exact hK.elim
theorem toList_eq_iff (a b : ByteArray) : (a.toList == b.toList) = decide (a = b) := by
 rw [ByteArray.toList_eq, ByteArray.toList_eq, Bool.eq_iff_iff]
 simp only [beq_iff_eq, decide_eq_true_eq]
 constructor
 · intro h
   cases a; cases b
   simp only [ByteArray.mk.injEq]
   exact Array.toList_inj.1 h
 · rintro rfl; rfl
theorem strBin_sound (h : Rl Γ s tm w β) {op : BinOp} {t : TypeId} {x y : Operand} {a b : ByteArray} (hK : strBin op a b fun v => K (.pure (.val v)) []) :
   Out Γ s tm K ((binRun op t x y (.string a) (.string b)).run P w) := by
 unfold strBin at hK
 unfold binRun
 simp only [eqGuard_at_string, Sem.run_bind, Sem.run_pure, Result.andThen_ok]
 split at hK
 · exact Out.val h hK (by simp [binOp, Op.stringOp, toList_eq_iff])
 · exact Out.val h hK (by simp [binOp, Op.stringOp, toList_eq_iff])
 · obtain ⟨h0, hK⟩ := hK
   refine Out.val h hK ?_
   have : ¬ (((a.size + b.size : Nat) : Int) > IntKind.i64.max) := by rw [IntKind.max_i64]; omega
   simp only [binOp, Op.stringOp, if_neg this, Sem.run_pure]
 · exact Out.val h hK (by simp [binOp, Op.stringOp, ByteArray.toList_eq])
 · exact hK.elim
theorem PR.val_inv {A : Nat → Prop} {v u : Value} (h : PR w A (.val v) u) : u = v := by cases h; rfl
theorem AR.val_inv {v u : Value} (h : AR w (Av Γ.X β) β (.pure (.val v)) u) : u = v := by
 cases h with
 | pure _ _ h => exact h.val_inv
theorem equal_of {t : TypeId} {x y : Value} {r : Bool} (h : ∀ d, (Op.equalIn (d + 1) t x y).run P w = .ok r w) : (Op.equal t x y).run P w = .ok r w := h 9999
theorem valsOf_spec : ∀ {l : List AV} {vs : List Value}, valsOf l = some vs → l = vs.map fun v => .pure (.val v)
 | [], vs, h => by simp [valsOf] at h; subst h; rfl
 | a :: l, vs, h => by
   unfold valsOf at h
   split at h
   · rename_i e; cases e
   · rename_i e
     cases e
     simp only [Option.map_eq_some_iff] at h
     obtain ⟨q, hq, rfl⟩ := h
     simp [valsOf_spec hq]
   · cases h
theorem agg_of_vals {x : AV} {u : Value} {vs : List Value} (hx : AR w (Av Γ.X β) β x u) (hv : valsOf (cellsOf x) = some vs) (hs : ∃ c, x = .agg c ∨ ∃ d, x = .pure (.agg d) ∧ c = pures d) : u = .agg vs.toArray := by
 have e := valsOf_spec hv
 obtain ⟨c, hs⟩ := hs
 have fin : ∀ (us : Array Value), us.size = vs.length → (∀ j, j < vs.length → us.getD j undef = vs.getD j undef) → us = vs.toArray := fun us hl hg => by
   apply Array.ext (by simpa using hl)
   intro j hj hj'
   have := hg j (by omega)
   rw [Array.getD_eq_getD_getElem?, Array.getElem?_eq_getElem hj] at this
   simpa [List.getD, show j < vs.length from by omega] using this
 rcases hs with rfl | ⟨d, rfl, rfl⟩
 · cases hx with
   | agg _ us hl hp =>
   simp only [cellsOf] at e
   subst e
   rw [fin us (by simpa using hl)]
   intro j hj
   have := hp j (.pure (.val vs[j])) (by simp [hj])
   rw [this.val_inv]
   simp [List.getD, hj]
 · cases hx with
   | pure _ _ hp =>
   cases hp with
   | agg _ us hl hp =>
   simp only [cellsOf] at e
   have hd : d = vs.map .val := by
     have : ∀ (l : List PV) (m : List Value), pures l = m.map (fun v => AV.pure (.val v)) → l = m.map .val := by
       intro l
       induction l with
       | nil => intro m h; cases m <;> simp [pures] at h ⊢
       | cons p l ih =>
         intro m h
         cases m with
         | nil => simp [pures] at h
         | cons v m =>
           simp only [pures, List.map_cons, List.cons.injEq, AV.pure.injEq] at h
           rw [List.map_cons, ih m h.2, h.1]
     exact this d vs e
   subst hd
   rw [fin us (by simpa using hl)]
   intro j hj
   have := hp j (.val vs[j]) (by simp [hj])
   rw [this.val_inv]
   simp [List.getD, hj]
theorem binOp_eql_run {t : TypeId} {x y : Value} {r : Bool} (hne : binOp .eql t x y = (do pure (.bool (← Op.equal t x y)))) (h : (Op.equal t x y).run P w = .ok r w) : (binOp .eql t x y).run P w = .ok (.bool r) w := by
 rw [hne]; simp only [Sem.run_bind, h, Result.andThen_ok, Sem.run_pure]
theorem binOp_neq_run {t : TypeId} {x y : Value} {r : Bool} (hne : binOp .neq t x y = (do pure (.bool (!(← Op.equal t x y))))) (h : (Op.equal t x y).run P w = .ok r w) : (binOp .neq t x y).run P w = .ok (.bool !r) w := by
 rw [hne]; simp only [Sem.run_bind, h, Result.andThen_ok, Sem.run_pure]
theorem bin_sound (h : Rl Γ s tm w β) {op : BinOp} {t : TypeId} {x y : AV} {ox oy : Operand} {u v : Value} (hx : AR w (Av Γ.X β) β x u) (hy : AR w (Av Γ.X β) β y v) (hlv : lenLiveB x s.blk = true) (hK : opBin P op t x y K) :
   Out Γ s tm K ((binRun op t ox oy u v).run P w) := by
 unfold opBin at hK
 split at hK
 · rw [hx.val_inv, hy.val_inv]; exact intBin_sound h hK
 · rw [hx.val_inv, hy.val_inv]; exact strBin_sound h hK
 · rename_i a b
   rw [hx.val_inv, hy.val_inv]
   split at hK
   · rename_i ht
     have he : (Op.equal t (.bool a) (.bool b)).run P w = .ok (a == b) w := equal_of fun d => by simp [Op.equalIn, run_underlying ht]
     unfold binRun
     simp only [eqGuard_at_bool, Sem.run_bind, Sem.run_pure, Result.andThen_ok]
     split at hK
     · exact Out.val h hK (binOp_eql_run rfl he)
     · exact Out.val h hK (by rw [binOp_neq_run rfl he]; cases a <;> cases b <;> rfl)
     · exact hK.elim
   · exact hK.elim
 · split at hK
   · rename_i hn
     have hv : v = .slice none 0 0 := by
       unfold isNil at hn
       split at hn
       · exact hy.val_inv
       · cases hn
     subst hv
     split at hK
     · rename_i e ht
       have hnf : ∀ (o : Option Addr) (n c : Nat), (Op.equal t (.slice o n c) (.slice none 0 0)).run P w = .ok o.isNone w := fun o n c =>
         equal_of fun d => by cases o <;> simp [Op.equalIn, run_underlying ht]
       have hg : ∀ (op : BinOp) (o : Option Addr) (n c : Nat), eqGuard op t ox oy (.slice o n c) (.slice none 0 0) = pure () := fun op o n c => by cases op <;> rfl
       split at hK
       · rename_i sz rows _ _ _
         have hsl : ∃ o n c, u = .slice o n c ∧ (o.isNone = true → rows = []) := by
           cases hx with
           | pure _ _ hp =>
           cases hp with
           | slnil => exact ⟨none, 0, 0, rfl, fun _ => rfl⟩
           | sl _ _ a cap us => exact ⟨some a, _, _, rfl, fun h => by simp at h⟩
         obtain ⟨o, n, c, rfl, ho⟩ := hsl
         unfold binRun
         simp only [hg, Sem.run_bind, Sem.run_pure, Result.andThen_ok]
         split at hK
         · exact Out.val h (hK _ ho) (binOp_eql_run rfl (hnf o n c))
         · exact Out.val h (hK _ fun hr => ho (by cases o <;> simp_all)) (binOp_neq_run rfl (hnf o n c))
         · exact hK.elim
       · rw [hx.val_inv]
         unfold binRun
         simp only [hg, Sem.run_bind, Sem.run_pure, Result.andThen_ok]
         split at hK
         · exact Out.val h hK (binOp_eql_run rfl (hnf none _ _))
         · exact Out.val h hK (binOp_neq_run rfl (hnf none _ _))
         · exact hK.elim
       · rename_i k i n _ _ _
         have hsl : ∃ o c, u = .slice o n c ∧ (o.isNone = true → n = 0) := by
           cases hx with
           | lsl _ _ _ bi cap hb hv hn hc hi hm => exact ⟨some _, cap, rfl, fun h => by simp at h⟩
           | lslV _ _ bi a hb hi => exact ⟨a, 0, rfl, fun _ => rfl⟩
           | lslDead _ _ _ _ hd =>
             simp only [lenLiveB] at hlv
             have hb := h.blks k
             rw [hd] at hb
             cases hs : s.blk k with
             | none => rw [hs] at hlv; cases hlv
             | some b => rw [hs] at hb; exact hb.elim
         obtain ⟨o, c, rfl, ho⟩ := hsl
         unfold binRun
         simp only [hg, Sem.run_bind, Sem.run_pure, Result.andThen_ok]
         split at hK
         · exact Out.val h (hK _ ho) (binOp_eql_run rfl (hnf o n c))
         · exact Out.val h (hK _ fun hr => ho (by cases o <;> simp_all)) (binOp_neq_run rfl (hnf o n c))
         · exact hK.elim
       · exact hK.elim
     · exact hK.elim
   · split at hK
     · rename_i hpn
       have hv : v = .pointer none := by
         unfold isPNil at hpn
         split at hpn
         · exact hy.val_inv
         · cases hpn
       subst hv
       unfold ptrNil at hK
       split at hK
       · rename_i e ht
         have hnf : ∀ (o : Option Addr), (Op.equal t (.pointer o) (.pointer none)).run P w = .ok o.isNone w := fun o =>
           equal_of fun d => by cases o <;> simp [Op.equalIn, run_underlying ht]
         have hg : ∀ (op : BinOp) (o : Option Addr), eqGuard op t ox oy (.pointer o) (.pointer none) = pure () := fun op o => by cases op <;> rfl
         split at hK
         · have hsl : ∃ a, u = .pointer (some a) := by
             cases hx with
             | pure _ _ hp =>
             cases hp with
             | ptr => exact ⟨_, rfl⟩
           obtain ⟨a, rfl⟩ := hsl
           unfold binRun
           simp only [hg, Sem.run_bind, Sem.run_pure, Result.andThen_ok]
           split at hK
           · exact Out.val h hK (binOp_eql_run rfl (hnf _))
           · exact Out.val h hK (binOp_neq_run rfl (hnf _))
           · exact hK.elim
         · rw [hx.val_inv]
           unfold binRun
           simp only [hg, Sem.run_bind, Sem.run_pure, Result.andThen_ok]
           split at hK
           · exact Out.val h hK (binOp_eql_run rfl (hnf none))
           · exact Out.val h hK (binOp_neq_run rfl (hnf none))
           · exact hK.elim
         · exact hK.elim
       · exact hK.elim
     split at hK
     · rename_i xs ys hxs hys
       split at hK
       · obtain ⟨r, hr, s1, s2, hK⟩ := hK
         rw [agg_of_vals hx hxs s1, agg_of_vals hy hys s2]
         obtain ⟨r1, r2⟩ := hr w
         refine Out.val h hK ?_
         unfold binRun
         rw [Sem.run_bind, show eqGuard .eql t ox oy (.agg xs.toArray) (.agg ys.toArray) = eqGuard .eql t (.tmp 0) (.tmp 0) (.agg xs.toArray) (.agg ys.toArray) from rfl, r1, Result.andThen_ok]
         exact binOp_eql_run rfl r2
       · obtain ⟨r, hr, s1, s2, hK⟩ := hK
         rw [agg_of_vals hx hxs s1, agg_of_vals hy hys s2]
         obtain ⟨r1, r2⟩ := hr w
         refine Out.val h hK ?_
         unfold binRun
         rw [Sem.run_bind, show eqGuard .neq t ox oy (.agg xs.toArray) (.agg ys.toArray) = eqGuard .eql t (.tmp 0) (.tmp 0) (.agg xs.toArray) (.agg ys.toArray) from rfl, r1, Result.andThen_ok]
         exact binOp_neq_run rfl r2
       · exact hK.elim
     · exact hK.elim
theorem un_sound (h : Rl Γ s tm w β) {op : UnOp} {x : AV} {u : Value} (hx : AR w (Av Γ.X β) β x u) (hK : opUn op x K) : Out Γ s tm K ((Op.unary op u).run P w) := by
 unfold opUn at hK
 split at hK
 · rw [hx.val_inv]
   split at hK
   · exact Out.val h hK rfl
   · exact hK.elim
 · rw [hx.val_inv]
   split at hK
   · obtain ⟨r, rfl, hK⟩ := hK
     exact Out.val h hK (by simp [Op.unary, Op.intArith])
   · obtain ⟨r, rfl, hK⟩ := hK
     exact Out.val h hK (by simp [Op.unary, intBits_xor])
   · exact hK.elim
 · exact hK.elim
theorem extract_sound (h : Rl Γ s tm w β) {x : AV} {u : Value} {i : Nat} (hx : AR w (Av Γ.X β) β x u) (hkx : ∀ k ∈ x.keys, k ∈ s.used) (hK : opExtract x i K) : Out Γ s tm K ((Instr.extract u i).run P w) := by
 unfold opExtract at hK
 split at hK
 · rename_i cs
   split at hK
   · rename_i v hv
     rw [nth_eq] at hv
     cases hx with
     | tup _ vs hl hp =>
     have hi : i < vs.size := by have := (List.getElem?_eq_some_iff.1 hv).1; omega
     refine Out.same h hK (u := vs.getD i undef) ?_ (hp i v hv) fun k hk => hkx k (by simp only [AV.keys]; exact AV.mem_keysL.2 ⟨v, List.mem_of_getElem? hv, hk⟩)
     simp [Instr.extract, hi]
   · exact hK.elim
 · rename_i cs
   split at hK
   · rename_i p hp'
     rw [nth_eq] at hp'
     cases hx with
     | pure _ _ hp =>
     cases hp with
     | tup _ vs hl hp =>
     have hi : i < vs.size := by have := (List.getElem?_eq_some_iff.1 hp').1; omega
     refine Out.same h hK (u := vs.getD i undef) ?_ (.pure _ _ (hp i p hp')) (by simp [AV.keys])
     simp [Instr.extract, hi]
   · exact hK.elim
 · exact hK.elim
theorem len_sound (h : Rl Γ s tm w β) {t ty : TypeId} {x : AV} {u : Value} (hx : AR w (Av Γ.X β) β x u) (hlv : lenLive x s.blk) (hK : opLen P t x K) : Out Γ s tm K ((Builtin.len_ #[t] ty #[u]).run P w) := by
 unfold opLen at hK
 split at hK
 · rename_i e ht
   split at hK
   · rename_i k i n
     have hu : ∃ o c, u = .slice o n c := by
       cases hx with
       | lsl => exact ⟨_, _, rfl⟩
       | lslV => exact ⟨_, _, rfl⟩
       | lslDead _ _ _ _ hd =>
         have hb := h.blks k
         rw [hd] at hb
         simp only [lenLive, lenLiveB] at hlv
         cases hs : s.blk k with
         | none => rw [hs] at hlv; cases hlv
         | some b => rw [hs] at hb; exact hb.elim
     obtain ⟨o, c, rfl⟩ := hu
     exact Out.val h hK (by simp [Builtin.len_, run_underlying ht, goInt])
   · rename_i sz rows
     have hu : ∃ o c, u = .slice o rows.length c := by
       cases hx with
       | pure _ _ hp =>
       cases hp with
       | slnil => exact ⟨_, _, rfl⟩
       | sl => exact ⟨_, _, rfl⟩
     obtain ⟨o, c, rfl⟩ := hu
     exact Out.val h hK (by simp [Builtin.len_, run_underlying ht, goInt])
   · rw [hx.val_inv]
     exact Out.val h hK (by simp [Builtin.len_, run_underlying ht, goInt])
   · exact hK.elim
 · rename_i ht
   split at hK
   · rw [hx.val_inv]
     exact Out.val h hK (by simp [Builtin.len_, run_underlying ht, goInt])
   · exact hK.elim
 · rename_i n e ht
   exact Out.val h hK (by simp [Builtin.len_, run_underlying ht, goInt])
 · rename_i kt et ht
   split at hK
   · rename_i ks vs
     cases hx with
     | pure _ _ hp =>
     cases hp with
     | mp _ _ b ms clock us hb hm hl hk hp =>
       have hg : (getObj b).run P w = .ok (.map ms clock) w := by simp [getObj, Sem.run, hm]
       exact Out.val h hK (by simp [Builtin.len_, run_underlying ht, goInt, hg, hl.1])
   · exact hK.elim
 · exact hK.elim
end
end Go.Avc
