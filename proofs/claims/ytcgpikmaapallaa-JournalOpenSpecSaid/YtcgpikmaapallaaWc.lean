/- More operations: make, literals, slices, append, copy, conversions. Conditions: none. -/
import Derived.Test.YtcgpikmaapallaaWb
import Derived.Deep.AppendSrc
import Derived.Deep.Upon
import Derived.Laws.IdiomStrings
import Derived.Laws.Tables
import Derived.Great.FillDense
set_option linter.unusedSimpArgs false
set_option linter.unusedVariables false
set_option maxRecDepth 20000
set_option maxHeartbeats 4000000
namespace Go.Avc
open Go.RowKit
def zeroOf (P : Program) (t : TypeId) : Option (List PV) :=
 match P.info? t with
 | some i => match i.zero with
   | some z => match allOne (fun _ => none) (z.cells.toList.map fun v => .pure (.val v)) with
     | true => some (z.cells.toList.map .val)
     | false => none
   | none => none
 | none => none
def bytesOf (P : Program) (t : TypeId) : Option Nat := match P.info? t with
 | some i => match i.bytes with
   | 0 => some 0
   | n + 1 => some (n + 1)
 | none => none
def natEq (a : Option Nat) (b : Nat) : Bool := match a with
 | some a => Nat.beq a b
 | none => false
def srcRows (x : AV) (blk : Nat → Option Blk) (sz : Nat) : Option (List (List PV)) :=
 match x with
 | .pure (.sl z rows) => match Nat.beq z sz with
   | true => some rows
   | false => none
 | .lsl k i n => match blk k with
   | some (.row z rows) => match Nat.beq z sz with
     | true => some ((rows.drop i).take n)
     | false => none
   | _ => none
 | .pure (.val (.slice none 0 0)) => some []
 | .pure (.val (.string s)) => match Nat.beq 1 sz with
   | true => some (s.data.toList.map fun b => [.val (.int .u8 (b.toNat : Int))])
   | false => none
 | _ => none
def opMake (P : Program) (t : TypeId) (n c : AV) (d : Nat) (K : Kont) : Prop :=
 match n, c with
 | .pure (.val (.int _ n)), .pure (.val (.int _ c)) => match P.underlying t with
   | some (.slice e) => match zeroOf P e with
     | some z => match szOf P e with
       | some (s + 1) => match bytesOf P e with
         | some by_ => match natEq (some (s + 1)) z.length with
           | true => 0 ≤ n ∧ n ≤ c ∧ c ≤ 140737488355328 ∧ c * (by_ : Int) ≤ 281474976710656 ∧ K (.lsl d 0 n.toNat) [.new d (.row (s + 1) (List.replicate n.toNat z))]
           | false => False
         | none => False
       | _ => False
     | none => False
   | _ => False
 | _, _ => False
def rowsOf (blk : Nat → Option Blk) (sz : Nat) (get : Operand → AV) : Nat → List (Nat × Operand) → Option (List (List PV))
 | _, [] => some []
 | i, (j, x) :: l => match Nat.beq i j with
   | true => match allOne blk (cellsOf (get x)) with
     | true => match toPVL blk (cellsOf (get x)) with
       | some ps => match Nat.beq ps.length sz with
         | true => (rowsOf blk sz get (i + 1) l).map (ps :: ·)
         | false => none
       | none => none
     | false => none
   | false => none
def keysOps (get : Operand → AV) : List (Nat × Operand) → List Nat
 | [] => []
 | (_, x) :: l => (get x).keys ++ keysOps get l
def opBuildSlice (md : Bool) (P : Program) (t : TypeId) (len : Nat) (parts : List (Nat × Operand)) (get : Operand → AV) (blk : Nat → Option Blk) (fx : List Nat) (d : Nat) (K : Kont) : Prop :=
 match P.underlying t with
 | some (.slice e) => match szOf P e with
   | some (s + 1) => match zeroOf P e with
     | some z => match natEq (some (s + 1)) z.length with
       | true => match rowsOf blk (s + 1) get 0 parts with
         | some rows => match Nat.beq parts.length len with
           | true => match disj (keysOps get parts) fx with
             | true => len * (s + 1) ≤ 16777216 ∧ K (.lsl d 0 len) (fk md (keysOps get parts) ++ [.new d (.row (s + 1) rows)])
             | false => False
           | false => False
         | none => False
       | false => False
     | none => False
   | _ => False
 | _ => False
def aggsOf (get : Operand → AV) : Nat → List (Nat × Operand) → Option (List (List PV))
 | _, [] => some []
 | i, (j, x) :: l => match Nat.beq i j with
   | true => match get x with
     | .pure p => match p with
       | .agg ps => (aggsOf get (i + 1) l).map (ps :: ·)
       | _ => none
     | _ => none
   | false => none
def onesAll (sz : Nat) : List (List PV) → Prop
 | [] => True
 | r :: l => (onesB r = true ∧ r.length = sz) ∧ onesAll sz l
def opBuildSliceA (md : Bool) (P : Program) (t : TypeId) (len : Nat) (parts : List (Nat × Operand)) (get : Operand → AV) (blk : Nat → Option Blk) (fx : List Nat) (d : Nat) (K : Kont) : Prop :=
 match P.underlying t with
 | some (.slice e) => match arrOf P e with
   | true => match aggsOf get 0 parts with
     | some rows => match szOf P e with
       | some (s + 1) => match zeroOf P e with
         | some z => match natEq (some (s + 1)) z.length with
           | true => match Nat.beq parts.length len with
             | true => onesAll (s + 1) rows ∧ len * (s + 1) ≤ 16777216 ∧ K (.lsl d 0 len) [.new d (.row (s + 1) rows)]
             | false => False
           | false => False
         | none => False
       | _ => False
     | none => opBuildSlice md P t len parts get blk fx d K
   | false => opBuildSlice md P t len parts get blk fx d K
 | _ => False
theorem aggsOf_rows {get : Operand → AV} {blk : Nat → Option Blk} {sz : Nat} : ∀ {parts : List (Nat × Operand)} {i : Nat} {rows : List (List PV)}, aggsOf get i parts = some rows → onesAll sz rows → rowsOf blk sz get i parts = some rows ∧ keysOps get parts = []
 | [], i, rows, h, _ => by simp only [aggsOf, Option.some.injEq] at h; subst h; exact ⟨rfl, rfl⟩
 | (j, x) :: l, i, rows, h, ho => by
   unfold aggsOf at h
   split at h
   case h_2 => cases h
   rename_i hij
   split at h
   case h_2 => cases h
   rename_i p hx
   split at h
   case h_2 => cases h
   rename_i ps
   simp only [Option.map_eq_some_iff] at h
   obtain ⟨q, hq, rfl⟩ := h
   obtain ⟨⟨h1, h2⟩, h3⟩ := ho
   obtain ⟨h4, h5⟩ := aggsOf_rows (blk := blk) hq h3
   have hb : Nat.beq ps.length sz = true := by rw [h2]; exact Nat.beq_refl _
   constructor
   · unfold rowsOf
     simp only [hij, hx, cellsOf, onesB_allOne h1, toPVL_pures, hb, h4, Option.map_some]
   · simp only [keysOps, hx, h5, AV.keys, List.nil_append]
theorem opBuildSliceA_old {md : Bool} {P : Program} {t : TypeId} {len : Nat} {parts : List (Nat × Operand)} {get : Operand → AV} {blk : Nat → Option Blk} {fx : List Nat} {d : Nat} {K : Kont} (h : opBuildSliceA md P t len parts get blk fx d K) : opBuildSlice md P t len parts get blk fx d K := by
 unfold opBuildSliceA at h
 split at h
 case h_2 => exact h.elim
 rename_i e ht
 split at h
 case h_2 => exact h
 split at h
 case h_2 => exact h
 rename_i rows hrows
 split at h
 case h_2 => exact h.elim
 rename_i s hs
 split at h
 case h_2 => exact h.elim
 rename_i z hz
 split at h
 case h_2 => exact h.elim
 rename_i hn
 split at h
 case h_2 => exact h.elim
 rename_i hl
 obtain ⟨h1, h2, h3⟩ := h
 obtain ⟨h4, h5⟩ := aggsOf_rows (blk := blk) hrows h1
 have hf : fk md [] = [] := by cases md <;> rfl
 have hdj : disj [] fx = true := rfl
 unfold opBuildSlice
 simp only [ht, hs, hz, hn, h4, hl, h5, hdj, hf, List.nil_append]
 exact ⟨h2, h3⟩
def placesOf (P : Program) : List Field → Option (List (Nat × Nat))
 | [] => some []
 | f :: l => match szOf P f.type with
   | some n => match placesOf P l with
     | some r => some ((f.offset, n) :: r)
     | none => none
   | none => none
def fillAV (place : Nat → Option (Nat × Nat)) (get : Operand → AV) : List AV → List (Nat × Operand) → Option (List AV)
 | cells, [] => some cells
 | cells, (i, x) :: l => match place i with
   | some (off, n) => match Nat.beq n (cellsOf (get x)).length with
     | true => match splice off cells (cellsOf (get x)) with
       | some cells' => fillAV place get cells' l
       | none => none
     | false => none
   | none => none
def allParts (blk : Nat → Option Blk) (get : Operand → AV) : List (Nat × Operand) → Bool
 | [] => true
 | (_, x) :: l => bif allOne blk (cellsOf (get x)) then allParts blk get l else false
def opBuild (P : Program) (t : TypeId) (parts : List (Nat × Operand)) (get : Operand → AV) (blk : Nat → Option Blk) (K : Kont) : Prop :=
 match zeroOf P t with
 | some z => match allParts blk get parts with
   | true => match P.underlying t with
     | some (.struct fs) => match placesOf P fs.toList with
       | some places => match fillAV (nth places) get (pures z) parts with
         | some cells => forceC cells fun cs => K (.agg cs) []
         | none => False
       | none => False
     | some (.array _ e) => match szOf P e with
       | some sz => match fillAV (fun i => some (i * sz, sz)) get (pures z) parts with
         | some cells => forceC cells fun cs => K (.agg cs) []
         | none => False
       | none => False
     | _ => False
   | false => False
 | none => False
def cut {α : Type} (l : List α) (i j : Nat) : List α := (l.drop i).take (j - i)
theorem length_cut {α : Type} (l : List α) (i j : Nat) : (cut l i j).length = min (j - i) (l.length - i) := by simp [cut]
theorem lenS : (∀ {α : Type}, ([] : List α).length = 0) ∧ (∀ {α β : Type} {l : List α} (f : α → β), (l.map f).length = l.length) ∧ (∀ {α : Type} {a : α} {l : List α}, (a :: l).length = l.length + 1) ∧
   (∀ {α : Type} {l m : List α}, (l ++ m).length = l.length + m.length) ∧ (∀ {α : Type} {n : Nat} {a : α}, (List.replicate n a).length = n) ∧ (∀ {α : Type} {l : List α} {i : Nat} {a : α}, (l.set i a).length = l.length) ∧
   (∀ {α : Type} {l : List α}, l.reverse.length = l.length) ∧ (∀ {α : Type} {l : List α} {i : Nat}, (l.take i).length = min i l.length) ∧ (∀ {α : Type} {l : List α} {i : Nat}, (l.drop i).length = l.length - i) ∧
   (∀ {α : Type} (l : List α) (i j : Nat), (cut l i j).length = min (j - i) (l.length - i)) :=
 ⟨List.length_nil, List.length_map, List.length_cons, List.length_append, List.length_replicate, List.length_set, List.length_reverse, List.length_take, List.length_drop, length_cut⟩
def lowVC (lo : Option AV) (h m : Nat) (K : Nat → Nat → Nat → Prop) : Prop :=
 match lo with
 | none => K 0 h m
 | some (.pure (.val (.int _ l))) => 0 ≤ l ∧ l ≤ (h : Int) ∧ K l.toNat h m
 | some _ => False
def boundsVC (len : Nat) (lo hi mx : Option AV) (K : Nat → Nat → Nat → Prop) : Prop :=
 match mx with
 | none => match hi with
   | none => lowVC lo len len K
   | some (.pure (.val (.int _ h))) => 0 ≤ h ∧ h ≤ (len : Int) ∧ lowVC lo h.toNat len K
   | some _ => False
 | some (.pure (.val (.int _ m))) => match hi with
   | some (.pure (.val (.int _ h))) => 0 ≤ m ∧ m ≤ (len : Int) ∧ 0 ≤ h ∧ h ≤ m ∧ lowVC lo h.toNat m.toNat K
   | _ => False
 | some _ => False
def parOf : AV → Option (Nat × List (List PV))
 | .pure p => match p with
   | .par sz rows => some (sz, rows)
   | _ => none
 | _ => none
theorem parOf_some {x : AV} {sz : Nat} {rows : List (List PV)} (h : parOf x = some (sz, rows)) : x = .pure (.par sz rows) := by
 cases x <;> first | cases h | skip
 rename_i p
 cases p <;> first | cases h | skip
 rfl
def opSlicePar (P : Program) (e : TypeId) (len : Nat) (x : AV) (lo hi mx : Option AV) (K : Kont) : Prop :=
 match parOf x with
 | some (sz, rows) => match natEq (szOf P e) sz with
   | true => rows.length = len ∧ len ≤ 140737488355328 ∧ boundsVC len lo hi mx fun l h _ => K (.pure (.sl sz (cut rows l h))) []
   | false => False
 | none => False
def opSlice (P : Program) (t : TypeId) (x : AV) (lo hi mx : Option AV) (blk : Nat → Option Blk) (K : Kont) : Prop :=
 match P.underlying t with
 | some (.slice e) => match x with
   | .pure (.sl sz rows) => match natEq (szOf P e) sz with
     | true => boundsVC rows.length lo hi mx fun l h _ => K (.pure (.sl sz (cut rows l h))) []
     | false => False
   | .lsl k i n => match blk k with
     | some (.row sz _) => match natEq (szOf P e) sz with
       | true => boundsVC n lo hi mx fun l h _ => K (.lsl k (i + l) (h - l)) []
       | false => False
     | _ => False
   | .pure (.val (.slice none 0 0)) => match szOf P e with
     | some _ => boundsVC 0 lo hi mx fun _ _ _ => K (.pure (.val (.slice none 0 0))) []
     | none => False
   | _ => False
 | some (.array len e) => match x with
   | .loc k i j => match blk k with
     | some (.row sz rows) => match natEq (szOf P e) sz with
       | true => i = 0 ∧ j = 0 ∧ rows.length = len ∧ len ≤ 140737488355328 ∧ boundsVC len lo hi mx fun l h _ => K (.lsl k l (h - l)) []
       | false => False
     | _ => False
   | x => opSlicePar P e len x lo hi mx K
 | some .string => match x, mx with
   | .pure (.val (.string s)), none => boundsVC s.size lo hi none fun l h _ => K (.pure (.val (.string (s.extract l h)))) []
   | _, _ => False
 | _ => False
def srcKind (P : Program) (t : TypeId) : Bool := match P.underlying t with
 | some (.slice _) => true
 | some .string => true
 | _ => false
def opAppend (P : Program) (t : TypeId) (x y : AV) (blk : Nat → Option Blk) (fx : List Nat) (d : Nat) (K : Kont) : Prop :=
 match P.underlying t with
 | some (.slice e) => match szOf P e with
   | some (s + 1) => match bytesOf P e with
     | some by_ => match zeroOf P e with
      | some z => match natEq (some (s + 1)) z.length with
       | true => match srcRows y blk (s + 1) with
        | some news => match x with
         | .pure (.val (.slice none 0 0)) => news.length * by_ ≤ 140737488355328 ∧ news.length ≤ 140737488355328 ∧ K (.lsl d 0 news.length) [.new d (.row (s + 1) news)]
         | .lsl k 0 n => match blk k with
           | some (.row sz rows) => match Nat.beq sz (s + 1) with
             | true => match freshIn k fx with
               | true => n = rows.length ∧ (rows.length + news.length) * by_ ≤ 140737488355328 ∧ rows.length + news.length ≤ 140737488355328 ∧
                   K (.lsl d 0 (rows.length + news.length)) [.kill k, .new d (.row (s + 1) (rows ++ news))]
               | false => False
             | false => False
           | _ => False
         | _ => False
        | none => False
       | false => False
      | none => False
     | none => False
   | _ => False
 | _ => False
def ovr {α : Type} (l : List α) (i c : Nat) (src : List α) : List α := l.take i ++ src.take c ++ l.drop (i + c)
def opCopy (P : Program) (t : TypeId) (x y : AV) (blk : Nat → Option Blk) (K : Kont) : Prop :=
 match P.underlying t with
 | some (.slice e) => match szOf P e with
   | some (s + 1) => match srcRows y blk (s + 1) with
     | some src => match x with
       | .lsl k i n => match blk k with
         | some (.row sz rows) => match Nat.beq sz (s + 1) with
           | true => K (.int (min src.length n : Nat)) [.set k (.row sz (ovr rows i (min src.length n) src))]
           | false => False
         | _ => False
       | _ => False
     | none => False
   | _ => False
 | _ => False
def notStr : AV → Bool
 | .pure (.val (.string _)) => false
 | _ => true
def byteRows (bs : List UInt8) : List (List PV) := bs.map fun b => [.val (.int .u8 (b.toNat : Int))]
def opConvert (P : Program) (src dst : TypeId) (x : AV) (blk : Nat → Option Blk) (d : Nat) (used fx : List Nat) (K : Kont) : Prop :=
 match P.underlying src, P.underlying dst with
 | some (.int _), some (.int k) => match x with
   | .pure (.val (.int _ n)) => ∃ r, k.wrap n = r ∧ K (.pure (.val (.int k r))) []
   | _ => False
 | some (.slice e), some .string => match P.underlying e with
   | some (.int .u8) => match notStr x with
     | true => match srcRows x blk 1 with
       | some rows => ∃ bs : List UInt8, rows = byteRows bs ∧ K (.pure (.val (.string ⟨bs.toArray⟩))) []
       | none => False
     | false => False
   | _ => False
 | some .string, some (.slice e) => match P.underlying e with
   | some (.int .u8) => match szOf P e with
     | some 1 => match x with
       | .pure (.val (.string s)) => guardNew d used fx (s.size ≤ 140737488355328 ∧ K (.lsl d 0 s.size) [.new d (.row 1 (byteRows s.data.toList))])
       | _ => False
     | _ => False
   | _ => False
 | _, _ => False
def more1 (md : Bool) (P : Program) (fx : List Nat) (s : St) (o : Oper) (K : Kont) : Prop :=
 match o.op with
 | .makeSlice t n c => match o.dst with
   | some d => guardNew d s.used fx (opMake P t (s.geto n) (s.geto c) d K)
   | none => False
 | .buildSlice t len parts => match o.dst with
   | some d => guardNew d s.used fx (opBuildSliceA md P t len parts.toList s.geto s.blk fx d K)
   | none => False
 | .build t parts => opBuild P t parts.toList s.geto s.blk K
 | .slice t x lo hi mx => opSlice P t (s.geto x) (lo.map s.geto) (hi.map s.geto) (mx.map s.geto) s.blk K
 | .convert a b x => match o.dst with
   | some d => opConvert P a b (s.geto x) s.blk d s.used fx K
   | none => False
 | .call c => match c.callee with
   | .builtin .append => match c.args.toList, c.argTypes.toList with
     | [x, y], [t, tx] => match srcKind P tx with
       | true => match o.dst with
         | some d => guardNew d s.used fx (opAppend P t (s.geto x) (s.geto y) s.blk fx d K)
         | none => False
       | false => False
     | _, _ => False
   | .builtin .copy => match c.args.toList, c.argTypes.toList with
     | [x, y], [t, _] => opCopy P t (s.geto x) (s.geto y) s.blk K
     | _, _ => False
   | .builtin .max => match c.args.toList with
     | [x, y] => match s.geto x, s.geto y with
       | .pure (.val (.int k n)), .pure (.val (.int k' m)) => match kEq k k' with
         | true => K (.pure (.val (.int k (max n m)))) []
         | false => False
       | _, _ => False
     | _ => False
   | .builtin .min => match c.args.toList with
     | [x, y] => match s.geto x, s.geto y with
       | .pure (.val (.int k n)), .pure (.val (.int k' m)) => match kEq k k' with
         | true => K (.pure (.val (.int k (min n m)))) []
         | false => False
       | _, _ => False
     | _ => False
   | _ => False
 | _ => False
end Go.Avc
/- Make, literals, slices, append, copy, conversions: sound. Conditions: none. -/
namespace Go.Avc
open Go.RowKit
section
variable {Γ : Ctx} {s : St} {tm : Array Value} {w : World} {β : BM} {P : Program} {K : Kont}
theorem zeroOf_spec {t : TypeId} {z : List PV} (h : zeroOf P t = some z) : ∃ i zv, P.info? t = some i ∧ i.zero = some zv ∧ z = zv.cells.toList.map .val ∧ (∀ v ∈ zv.cells.toList, v.oneCell' = true) ∧ ∀ w, (zeroValue t).run P w = .ok zv w := by
 unfold zeroOf at h
 split at h
 case h_2 => cases h
 rename_i i hi
 split at h
 case h_2 => cases h
 rename_i zv hz
 split at h
 case h_2 => cases h
 rename_i h1
 cases h
 refine ⟨i, zv, hi, hz, rfl, fun v hv => ?_, fun w => by simp [zeroValue, typeInfo, hi, hz]⟩
 exact allOne_spec h1 (.pure (.val v)) (List.mem_map.2 ⟨v, hv, rfl⟩)
theorem natEq_spec {a : Option Nat} {b : Nat} (h : natEq a b = true) : a = some b := by
 unfold natEq at h
 split at h
 · rw [Nat.eq_of_beq_eq_true h]
 · cases h
theorem szOf_info {t : TypeId} {n : Nat} {i : TypeInfo} (h : szOf P t = some n) (hi : P.info? t = some i) : i.size = n := by
 simpa [szOf, hi] using h
theorem bytesOf_info {t : TypeId} {n : Nat} {i : TypeInfo} (h : bytesOf P t = some n) (hi : P.info? t = some i) : i.bytes = n := by
 unfold bytesOf at h
 rw [hi] at h
 simp only at h
 split at h <;> simp_all
theorem row_out (h : Rl Γ s tm w β) {w1 : World} (hw : w1.heap = w.heap) (ho : w1.os = w.os) (ht : Tp w1 w) (hp : w1.output = w.output) {d : Nat} (hd : d ∉ s.used) (hfx : d ∉ Γ.fx) (t : TypeId) {sz : Nat} {rows : List (List PV)} {cs : Array Value} (fz : Nat × Nat) (hfz : NF cs fz) (hsz : 0 < sz)
   (hr : ∀ (i : Nat) (row : List PV), rows[i]? = some row → row.length = sz)
   (hc : ∀ (i : Nat) (row : List PV) (j : Nat) (p : PV), rows[i]? = some row → row[j]? = some p → PR w (Av Γ.X β) p (cs.getD (i * sz + j) undef) ∧ (cs.getD (i * sz + j) undef).oneCell' = true)
   {cap : Nat} (hcap : rows.length ≤ cap) (hcs : cap * sz ≤ cs.size) (hm : cap ≤ maxLen) :
   ∃ β', Rl Γ (s.new d (.row sz rows)) tm (w1.alloc (.cells cs t fz)) β' ∧ AR (w1.alloc (.cells cs t fz)) (Av Γ.X β') β' (.lsl d 0 rows.length) (.slice (some ⟨w.heap.size, 0, none⟩) rows.length cap) := by
 have hl : rows.length * sz ≤ cs.size := Nat.le_trans (Nat.mul_le_mul_right _ hcap) hcs
 obtain ⟨β', hn, hb⟩ := new_row h hw ho ht hp hd hfx t fz hfz hsz hl hr hc
 refine ⟨β', hn, ?_⟩
 have := AR.lsl (w := w1.alloc (.cells cs t fz)) (A := Av Γ.X β') (β := β') d 0 rows.length _ cap hb rfl hcap (by simpa using hcs) (by simp) hm
 simpa using this
theorem madeCells_getD (z : Array Value) (sz i j n : Nat) (hz : z.size = sz) (hj : j < sz) (hl : i * sz + j < n) : (madeCells z n).getD (i * sz + j) undef = z.getD j undef := by
 have hm : (i * sz + j) % sz = j := by rw [Nat.mul_comm, Nat.mul_add_mod]; exact Nat.mod_eq_of_lt hj
 rw [Array.getD_eq_getD_getElem?, Array.getD_eq_getD_getElem?]
 have hjz : j < z.size := by omega
 simp [madeCells, hl, hz, hm]
 rw [getElem!_pos z j hjz, Array.getElem?_eq_getElem hjz]
 rfl
theorem make_sound (h : Rl Γ s tm w β) {t : TypeId} {n c : AV} {un uc : Value} {d : Nat} (hd : d ∉ s.used) (hfx : d ∉ Γ.fx) (hn : AR w (Av Γ.X β) β n un) (hc : AR w (Av Γ.X β) β c uc) (hK : opMake P t n c d K) :
   Out Γ s tm K ((Instr.makeSlice t un uc).run P w) := by
 unfold opMake at hK
 split at hK
 case h_2 => exact hK.elim
 rw [hn.val_inv, hc.val_inv]
 rename_i kn n kc c
 split at hK
 case h_2 => exact hK.elim
 rename_i e ht
 split at hK
 case h_2 => exact hK.elim
 rename_i z hz
 split at hK
 case h_2 => exact hK.elim
 rename_i sz hs
 split at hK
 case h_2 => exact hK.elim
 rename_i by_ hby
 split at hK
 case h_2 => exact hK.elim
 rename_i hzl
 obtain ⟨h0, hnc, hc1, hc2, hK⟩ := hK
 obtain ⟨i, zv, hi, hzv, rfl, hone, _⟩ := zeroOf_spec hz
 have hsz := szOf_info hs hi
 have hzs : zv.cells.size = sz + 1 := by have := natEq_spec hzl; simp at this; omega
 have hrun := run_make (P := P) w t e i zv ht hi hzv kn kc n c h0 hnc (by rw [bytesOf_info hby hi, Int.mul_comm]; exact hc2) (by omega)
 have hrep : ∀ (x : Nat) (row : List PV), (List.replicate n.toNat (zv.cells.toList.map PV.val))[x]? = some row → row = zv.cells.toList.map PV.val ∧ x < n.toNat := fun x row hx => by
   rw [List.getElem?_replicate] at hx
   split at hx
   · cases hx; exact ⟨rfl, by assumption⟩
   · cases hx
 have hmul : n.toNat * (sz + 1) ≤ c.toNat * (sz + 1) := Nat.mul_le_mul_right _ (by omega)
 obtain ⟨β', hR, hA⟩ := row_out h (w1 := w) rfl rfl tpr rfl hd hfx e (sz := sz + 1) (rows := List.replicate n.toNat (zv.cells.toList.map PV.val)) (cs := madeCells zv.cells (c.toNat * i.size)) (0, 0) (NF.zero _) (by omega)
   (fun x row hx => by rw [(hrep x row hx).1]; simp [hzs]) (fun x row y p hx hy => by
     obtain ⟨rfl, hxn⟩ := hrep x row hx
     simp only [List.getElem?_map, Option.map_eq_some_iff, Array.getElem?_toList] at hy
     obtain ⟨v, hv, rfl⟩ := hy
     have hyl : y < sz + 1 := by have := (Array.getElem?_eq_some_iff.1 hv).1; omega
     have hlt : x * (sz + 1) + y < c.toNat * (sz + 1) := by
       have : x * (sz + 1) + (sz + 1) ≤ n.toNat * (sz + 1) := by rw [← Nat.succ_mul]; exact Nat.mul_le_mul_right _ hxn
       omega
     rw [hsz, madeCells_getD _ _ _ _ _ hzs hyl hlt]
     have e : zv.cells.getD y undef = v := by rw [Array.getD_eq_getD_getElem?, hv]; rfl
     rw [e]
     exact ⟨.val _, hone v (by have := Array.mem_of_getElem? hv; simpa using this)⟩)
   (cap := c.toNat) (by simp; omega) (by rw [size_madeCells, hsz]; exact Nat.le_refl _) (by unfold maxLen; omega)
 refine ⟨_, _, _, _, β', hK, hrun, hR, by simpa using hA, by simp [AV.keys, St.acts, St.act, St.new]⟩
theorem srcRows_spec (h : Rl Γ s tm w β) {x : AV} {u : Value} (hx : AR w (Av Γ.X β) β x u) {sz : Nat} {rows : List (List PV)} (hs : srcRows x s.blk sz = some rows) :
   (∀ w' : World, (Builtin.lenOf u).run P w' = .ok rows.length w') ∧ (∀ (i : Nat) (row : List PV), rows[i]? = some row → row.length = sz) ∧
   ∀ c, c ≤ rows.length → ∃ cs : Array Value, (∀ w' : World, w'.heap = w.heap → (Builtin.firstCells sz c u).run P w' = .ok cs w') ∧ cs.size = c * sz ∧
     ∀ (i : Nat) (row : List PV) (j : Nat) (p : PV), rows[i]? = some row → i < c → row[j]? = some p → PR w (Av Γ.X β) p (cs.getD (i * sz + j) undef) ∧ (cs.getD (i * sz + j) undef).oneCell' = true := by
 -- out of cells that lie in a row
 have gen : ∀ (a : Addr) (cap : Nat) (f : Nat → Value), 0 < sz → (∀ (i : Nat) (row : List PV), rows[i]? = some row → row.length = sz) →
     (∀ (i : Nat) (row : List PV) (j : Nat) (p : PV), rows[i]? = some row → row[j]? = some p → w.cell? (a.add (i * sz + j)) = some (f (i * sz + j)) ∧ PR w (Av Γ.X β) p (f (i * sz + j)) ∧ (f (i * sz + j)).oneCell' = true) →
     u = .slice (some a) rows.length cap → (∀ w' : World, (Builtin.lenOf u).run P w' = .ok rows.length w') ∧ (∀ (i : Nat) (row : List PV), rows[i]? = some row → row.length = sz) ∧
   ∀ c, c ≤ rows.length → ∃ cs : Array Value, (∀ w' : World, w'.heap = w.heap → (Builtin.firstCells sz c u).run P w' = .ok cs w') ∧ cs.size = c * sz ∧
     ∀ (i : Nat) (row : List PV) (j : Nat) (p : PV), rows[i]? = some row → i < c → row[j]? = some p → PR w (Av Γ.X β) p (cs.getD (i * sz + j) undef) ∧ (cs.getD (i * sz + j) undef).oneCell' = true := by
   rintro a cap f hsz hl hf rfl
   refine ⟨fun _ => rfl, hl, fun c hc => ⟨((List.range (c * sz)).map f).toArray, fun w' hw' => ?_, by simp, fun i row j p hi hic hj => ?_⟩⟩
   · simp only [Builtin.firstCells]
     refine run_loadCells (P := P) w' a (c * sz) f fun y hy => ?_
     rw [World.cell?_of_block (w := w) (by rw [hw'])]
     have h1 : y / sz < c := Nat.div_lt_of_lt_mul (by rw [Nat.mul_comm]; exact hy)
     have h2 : y % sz < sz := Nat.mod_lt _ hsz
     have h3 : y / sz * sz + y % sz = y := by rw [Nat.mul_comm]; exact Nat.div_add_mod y sz
     have hrow : rows[y / sz]? = some rows[y / sz] := List.getElem?_eq_getElem (by omega)
     have hlen := hl _ _ hrow
     have hp : rows[y / sz][y % sz]? = some rows[y / sz][y % sz] := List.getElem?_eq_getElem (by omega)
     have := (hf _ _ _ _ hrow hp).1
     rw [h3] at this
     exact this
   · have hjl : j < sz := by have := hl i row hi; have := (List.getElem?_eq_some_iff.1 hj).1; omega
     have : i * sz + sz ≤ c * sz := by rw [← Nat.succ_mul]; exact Nat.mul_le_mul_right _ hic
     rw [getD_range _ _ _ (by omega)]
     exact (hf i row j p hi hj).2
 unfold srcRows at hs
 split at hs
 · split at hs
   case h_2 => cases hs
   rename_i hz
   have hz' := Nat.eq_of_beq_eq_true hz
   cases hz'
   cases hs
   cases hx with
   | pure _ _ hp =>
   cases hp with
   | slnil => exact ⟨fun _ => rfl, by simp, fun c hc => ⟨#[], fun _ _ => by simp [Builtin.firstCells], by simp at hc; simp [hc], by simp⟩⟩
   | sl _ _ a cap us hc hm hsz hb hl hr hp =>
     refine gen a cap (fun y => us (y / sz) (y % sz)) hsz hl (fun i row j p hi hj => ?_) rfl
     have hjl : j < sz := by have := hl i row hi; have := (List.getElem?_eq_some_iff.1 hj).1; omega
     have e1 : (i * sz + j) / sz = i := by
       rw [Nat.mul_comm, Nat.mul_add_div hsz, Nat.div_eq_of_lt hjl, Nat.add_zero]
     have e2 : (i * sz + j) % sz = j := by rw [Nat.mul_comm, Nat.mul_add_mod]; exact Nat.mod_eq_of_lt hjl
     simp only [e1, e2]
     exact ⟨(hr i row j p hi hj).1, hp i row j p hi hj, (hr i row j p hi hj).2⟩
 · rename_i k i n
   split at hs
   · rename_i z rows0 hblk
     split at hs
     case h_2 => cases hs
     rename_i hz
     obtain rfl := Nat.eq_of_beq_eq_true hz
     cases hs
     obtain ⟨bi, hβ, hb⟩ := h.live hblk
     have hb' := hb
     obtain ⟨h1, h2, h2', h3, h4⟩ := hb'
     cases hx with
     | lsl _ _ _ bi' cap hbb hv hn hcc hil hm =>
       rw [hβ] at hbb; cases hbb
       have hlen : ((rows0.drop i).take n).length = n := by simp; omega
       have hget : ∀ (x : Nat) (row : List PV), ((rows0.drop i).take n)[x]? = some row → rows0[i + x]? = some row := fun x row hx => by
         have hxn : x < n := by have := (List.getElem?_eq_some_iff.1 hx).1; omega
         rw [List.getElem?_take, if_pos hxn, List.getElem?_drop] at hx
         exact hx
       have hf : ∀ y, ∃ v, ∀ x row j p, ((rows0.drop i).take n)[x]? = some row → row[j]? = some p → y = x * z + j → w.cell? ⟨bi.b, i * bi.sz + y, none⟩ = some v ∧ PR w (Av Γ.X β) p v ∧ v.oneCell' = true := fun y => by
         by_cases hex : ∃ x row j p, ((rows0.drop i).take n)[x]? = some row ∧ row[j]? = some p ∧ y = x * z + j
         · obtain ⟨x, row, j, p, hx, hj, rfl⟩ := hex
           obtain ⟨v, g1, g2, g3⟩ := row_cell (w := w) (β := β) hb (hget x row hx) hj
           refine ⟨v, fun x' row' j' p' hx' hj' e => ?_⟩
           have hjl : j < z := by have := h3 _ row (hget x row hx); have := (List.getElem?_eq_some_iff.1 hj).1; omega
           have hjl' : j' < z := by have := h3 _ row' (hget x' row' hx'); have := (List.getElem?_eq_some_iff.1 hj').1; omega
           have e1 : (x * z + j) / z = x := by rw [Nat.mul_comm, Nat.mul_add_div h2, Nat.div_eq_of_lt hjl, Nat.add_zero]
           have e2 : (x' * z + j') / z = x' := by rw [Nat.mul_comm, Nat.mul_add_div h2, Nat.div_eq_of_lt hjl', Nat.add_zero]
           have exx : x' = x := by rw [← e1, ← e2, e]
           subst exx
           rw [hx] at hx'; cases hx'
           have ejj : j' = j := by omega
           subst ejj
           rw [hj] at hj'; cases hj'
           refine ⟨?_, g2, g3⟩
           rw [← g1]
           congr 2
           rw [h1, Nat.add_mul]; omega
         · exact ⟨undef, fun x row j p hx hj e => absurd ⟨x, row, j, p, hx, hj, e⟩ hex⟩
       obtain ⟨f, hf⟩ := Classical.axiomOfChoice hf
       refine gen ⟨bi.b, i * bi.sz, none⟩ cap f h2 (fun x row hx => h3 _ row (hget x row hx)) (fun x row j p hx hj => ?_) (by rw [hlen])
       rw [Addr.add_lit]
       exact hf _ x row j p hx hj rfl
     | lslV _ _ bi' a hbb =>
       rw [List.take_zero]
       refine ⟨fun _ => rfl, by simp, fun c hc => ⟨#[], fun _ _ => ?_, by simp at hc; simp [hc], by simp⟩⟩
       have : c = 0 := by simpa using hc
       subst this
       cases a <;> simp [Builtin.firstCells, loadCells, loadCellsFrom]
     | lslDead _ _ _ _ hd => rw [hβ] at hd; cases hd
   · cases hs
 · cases hs
   rw [hx.val_inv]
   exact ⟨fun _ => rfl, by simp, fun c hc => ⟨#[], fun _ _ => by simp [Builtin.firstCells], by simp at hc; simp [hc], by simp⟩⟩
 · rename_i str
   split at hs
   case h_2 => cases hs
   rename_i hz
   obtain rfl := Nat.eq_of_beq_eq_true hz
   cases hs
   rw [hx.val_inv]
   refine ⟨fun w' => by show Result.ok _ w' = _; simp <;> rfl, fun i row hi => ?_, fun c hc => ⟨((str.extract 0 c).data.map fun b => Value.int .u8 b.toNat), fun _ _ => rfl, ?_, fun i row j p hi hic hj => ?_⟩⟩
   · simp only [List.getElem?_map, Option.map_eq_some_iff] at hi
     obtain ⟨b, _, rfl⟩ := hi
     rfl
   · simp only [List.length_map, Array.length_toList] at hc
     have e1 : (str.extract 0 c).data.size = c := by
       show (str.extract 0 c).size = c
       rw [ByteArray.size_extract]
       have : str.size = str.data.size := rfl
       omega
     rw [Array.size_map, e1, Nat.mul_one]
   · simp only [List.getElem?_map, Option.map_eq_some_iff, Array.getElem?_toList] at hi
     obtain ⟨b, hb, rfl⟩ := hi
     cases j with
     | succ j => simp at hj
     | zero =>
       simp only [List.getElem?_cons_zero, Option.some.injEq] at hj
       subst hj
       have e : ((str.extract 0 c).data.map fun b => Value.int .u8 b.toNat).getD (i * 1 + 0) undef = Value.int .u8 (b.toNat : Int) := by
         rw [Array.getD_eq_getD_getElem?]
         rw [ByteArray.data_extract]
         simp only [Nat.mul_one, Nat.add_zero, Array.getElem?_map, Array.getElem?_extract]
         rw [if_pos (by have := (Array.getElem?_eq_some_iff.1 hb).1; omega)]
         simp [hb]
       rw [e]
       exact ⟨.val _, rfl⟩
 · cases hs
end
end Go.Avc
/- Slices, literals, append, copy, conversions: sound. Conditions: none. -/
namespace Go.Avc
open Go.RowKit
theorem byteRows_get {bs : List UInt8} {i : Nat} (h : i < bs.length) : (byteRows bs)[i]? = some [.val (.int .u8 (bs[i].toNat : Int))] := by
 simp [byteRows, h]
section
variable {Γ : Ctx} {s : St} {tm : Array Value} {w : World} {β : BM} {P : Program} {K : Kont}
theorem Rl.moveK (h : Rl Γ s tm w β) {k : Nat} {bi : BI} (hβ : β k = some bi) (hv : bi.virt = false) (hfx : k ∉ Γ.fx) {d : Nat} (hd : d ∉ s.used) (hdfx : d ∉ Γ.fx) {bi' : BI} (hb : bi'.b = bi.b) (_ : bi'.virt = false)
   {w' : World} (hsz : w'.heap.size = w.heap.size) (hold : ∀ b, b ≠ bi.b → w'.heap[b]? = w.heap[b]?) (ho : w'.os = w.os) (ht : Tp w' w) (hp : w'.output = w.output) {sz : Nat} {rows : List (List PV)}
   (hblk : ∀ β' : BM, Ad w (Av Γ.X β) w' (Av Γ.X β') → BOK w' (Av Γ.X β') β' bi' (.row sz rows)) :
   ∃ β', Rl Γ ((s.kill k).new d (.row sz rows)) tm w' β' ∧ β' d = some bi' := by
 have hk' := h.killK hfx
 generalize hβ0 : (fun j => if j = k then none else β j) = β0 at hk'
 have z1 : β0 k = none := by rw [← hβ0]; simp
 have z2 : ∀ j, j ≠ k → β0 j = β j := fun j hj => by rw [← hβ0]; simp [hj]
 have hkd : d ≠ k := fun e => by
   have hbk := h.blks k
   rw [hβ] at hbk
   cases hs : s.blk k with
   | none => rw [hs] at hbk; exact hbk.elim
   | some blk => exact hd (e ▸ (h.used2 k blk hs).1)
 generalize hβ' : (fun j => if j = d then some bi' else β0 j) = β'
 have e1 : β' d = some bi' := by rw [← hβ']; simp
 have e2 : ∀ j, j ≠ d → β' j = β0 j := fun j hj => by rw [← hβ']; simp [hj]
 have e3 : ∀ j bj, j ≠ d → β' j = some bj → j ≠ k ∧ β j = some bj := fun j bj hjd hj => by
   rw [e2 j hjd] at hj
   have hjk : j ≠ k := fun e => by subst e; rw [z1] at hj; cases hj
   exact ⟨hjk, by rw [← z2 j hjk]; exact hj⟩
 have hav : ∀ b, Av Γ.X β' b → Av Γ.X β b := by
   rintro b (hx | ⟨j, bj, hj, hvj, rfl⟩)
   · exact .inl hx
   · by_cases e : j = d
     · subst e
       rw [e1] at hj; cases hj
       exact .inr ⟨k, bi, hβ, hv, hb.symm⟩
     · exact .inr ⟨j, bj, (e3 j bj e hj).2, hvj, rfl⟩
 have had : Ad w (Av Γ.X β) w' (Av Γ.X β') := ⟨by omega, fun b _ hA => ⟨hold b fun e => hA (.inr ⟨k, bi, hβ, hv, e.symm⟩), fun hA' => hA (hav b hA')⟩⟩
 -- values: out of the world w, the name k given up
 have arm : ∀ {p : AV} {v : Value}, d ∉ p.keys → AR w (Av Γ.X β) β p v → AR w' (Av Γ.X β') β' p v := by
   intro p v hdp hp
   have hkeys : ∀ j, j ≠ d → j ≠ k → β' j = β j := fun j h1 h2 => (e2 j h1).trans (z2 j h2)
   have hk0 : β' k = none := (e2 k (Ne.symm hkd)).trans z1
   induction hp with
   | junk v => exact .junk v
   | gh i t v => exact .gh i t v
   | pure p v hp => exact .pure p v (hp.mono had)
   | loc k' i j bi hb =>
     simp only [AV.keys, List.mem_singleton] at hdp
     by_cases e : k' = k
     · subst e; exact .locDead _ _ _ _ hk0
     · exact .loc k' i j bi ((hkeys k' (Ne.symm hdp) e).trans hb)
   | locDead k' i j v hb =>
     simp only [AV.keys, List.mem_singleton] at hdp
     by_cases e : k' = k
     · subst e; exact .locDead _ _ _ _ hk0
     · exact .locDead k' i j v ((hkeys k' (Ne.symm hdp) e).trans hb)
   | mp k' bi hb =>
     simp only [AV.keys, List.mem_singleton] at hdp
     by_cases e : k' = k
     · subst e; exact .mpDead _ _ hk0
     · exact .mp k' bi ((hkeys k' (Ne.symm hdp) e).trans hb)
   | mpDead k' v hb =>
     simp only [AV.keys, List.mem_singleton] at hdp
     by_cases e : k' = k
     · subst e; exact .mpDead _ _ hk0
     · exact .mpDead k' v ((hkeys k' (Ne.symm hdp) e).trans hb)
   | lsl k' i n bi cap hb hv hn hc hi hm =>
     simp only [AV.keys, List.mem_singleton] at hdp
     by_cases e : k' = k
     · subst e; exact .lslDead _ _ _ _ hk0
     · exact .lsl k' i n bi cap ((hkeys k' (Ne.symm hdp) e).trans hb) hv hn hc hi hm
   | lslV k' i bi a hb hi =>
     simp only [AV.keys, List.mem_singleton] at hdp
     by_cases e : k' = k
     · subst e; exact .lslDead _ _ _ _ hk0
     · exact .lslV k' i bi a ((hkeys k' (Ne.symm hdp) e).trans hb) hi
   | lslDead k' i n v hb =>
     simp only [AV.keys, List.mem_singleton] at hdp
     by_cases e : k' = k
     · subst e; exact .lslDead _ _ _ _ hk0
     · exact .lslDead k' i n v ((hkeys k' (Ne.symm hdp) e).trans hb)
   | agg cs vs hl _ ih => exact .agg cs vs hl fun j p hj => ih j p hj fun hm => hdp (by simp only [AV.keys]; exact AV.mem_keysL.2 ⟨p, List.mem_of_getElem? hj, hm⟩)
   | fn f cs vs hl _ ih => exact .fn f cs vs hl fun j p hj => ih j p hj fun hm => hdp (by simp only [AV.keys]; exact AV.mem_keysL.2 ⟨p, List.mem_of_getElem? hj, hm⟩)
   | bm f g p v he _ ih => exact .bm f g p v he (ih fun hm => hdp (by simp only [AV.keys]; exact AV.mem_keysL.2 ⟨p, by simp, hm⟩))
   | tup cs vs hl _ ih => exact .tup cs vs hl fun j p hj => ih j p hj fun hm => hdp (by simp only [AV.keys]; exact AV.mem_keysL.2 ⟨p, List.mem_of_getElem? hj, hm⟩)
 refine ⟨β', ?_, e1⟩
 refine
 { size := h.size
   slots := fun t => arm (fun hm => hd (h.used1 t d hm)) (h.slots t)
   blks := fun j => ?_
   inj := fun j j' bj bj' hj hj' hvj hvj' hbb => ?_
   lt := fun j bj hj hvj => ?_
   notX := fun j bj hj hvj => ?_
   own := fun j bj hj hvj => ?_
   fixd := fun j hj => ?_
   used1 := fun t x hx => List.mem_cons_of_mem _ (h.used1 t x hx)
   used2 := fun j b hj => ?_
   keep := ⟨ho.trans h.keep.os, ht.trans h.keep.tape, hp.trans h.keep.output, by have := h.keep.size; omega, fun b hlt hE => (hold b fun e => ?_).trans (h.keep.block b hlt hE)⟩
   Xlt := fun b hb => Nat.lt_of_lt_of_le (h.Xlt b hb) (by first | omega | assumption)
   glob := h.glob.mono had }
 · rw [St.blk_new, St.blk_kill]
   by_cases e : d = j
   · subst e
     rw [if_pos rfl, e1]
     exact hblk β' had
   · rw [if_neg e]
     by_cases e' : k = j
     · subst e'
       rw [if_pos rfl, e2 k (Ne.symm e), z1]
       trivial
     · rw [if_neg e', e2 j (Ne.symm e), z2 j (Ne.symm e')]
       have hb := h.blks j
       cases hs : s.blk j with
       | none =>
         rw [hs] at hb
         cases hbj : β j with
         | none => trivial
         | some x => rw [hbj] at hb; exact hb.elim
       | some blk' =>
         rw [hs] at hb
         cases hbj : β j with
         | none => rw [hbj] at hb; exact hb.elim
         | some x =>
           rw [hbj] at hb
           have hhold : x.virt = false → w'.heap[x.b]? = w.heap[x.b]? := fun hvx => hold _ fun e'' => e' (h.inj k j bi x hβ hbj hv hvx e''.symm)
           cases blk' with
           | box cells =>
             obtain ⟨h1, cs, e', fz, h2, h3, h4, h5, h6⟩ := hb
             refine ⟨h1, cs, e', fz, (hhold h1).trans h2, h3, h4, h5, fun y av hy => ⟨arm (fun hm => hd ((h.used2 j _ hs).2 d ?_)) (h6 y av hy).1, (h6 y av hy).2⟩⟩
             simp only [Blk.keys]
             exact AV.mem_keysL.2 ⟨av, List.mem_of_getElem? hy, hm⟩
           | row sz' rows' =>
             refine BOK.mono (β := β) (β' := β') (blk := .row sz' rows') had hb (fun y hy => ?_) hhold
             simp only [Blk.keys, List.not_mem_nil] at hy
           | mp es =>
             refine BOK.mono (β := β) (β' := β') (blk := .mp es) had hb (fun y hy => ?_) hhold
             simp only [Blk.keys, List.not_mem_nil] at hy
 · by_cases e : j = d <;> by_cases e' : j' = d
   · rw [e, e']
   · subst e
     rw [e1] at hj; cases hj
     obtain ⟨g1, g2⟩ := e3 j' bj' e' hj'
     exact absurd (h.inj j' k bj' bi g2 hβ hvj' hv (by rw [← hbb, hb])) g1
   · subst e'
     rw [e1] at hj'; cases hj'
     obtain ⟨g1, g2⟩ := e3 j bj e hj
     exact absurd (h.inj j k bj bi g2 hβ hvj hv (by rw [hbb, hb])) g1
   · exact h.inj j j' bj bj' (e3 j bj e hj).2 (e3 j' bj' e' hj').2 hvj hvj' hbb
 · by_cases e : j = d
   · subst e
     rw [e1] at hj; cases hj
     rw [hb, hsz]; exact h.lt k bi hβ hv
   · rw [hsz]; exact h.lt j bj (e3 j bj e hj).2 hvj
 · by_cases e : j = d
   · subst e
     rw [e1] at hj; cases hj
     rw [hb]; exact h.notX k bi hβ hv
   · exact h.notX j bj (e3 j bj e hj).2 hvj
 · by_cases e : j = d
   · subst e
     rw [e1] at hj; cases hj
     rw [hb]; exact h.own k bi hβ hv
   · exact h.own j bj (e3 j bj e hj).2 hvj
 · rw [e2 j (fun e => hdfx (e ▸ hj)), z2 j (fun e => hfx (e ▸ hj))]
   exact h.fixd j hj
 · rw [St.blk_new, St.blk_kill] at hj
   by_cases e : d = j
   · subst e
     rw [if_pos rfl] at hj; cases hj
     exact ⟨List.mem_cons_self, fun x hx => by simp [Blk.keys] at hx⟩
   · rw [if_neg e] at hj
     by_cases e' : k = j
     · rw [if_pos e'] at hj; cases hj
     · rw [if_neg e'] at hj
       exact ⟨List.mem_cons_of_mem _ (h.used2 j b hj).1, fun x hx => List.mem_cons_of_mem _ ((h.used2 j b hj).2 x hx)⟩
 · subst e
   rcases h.own k bi hβ hv with h1 | h1
   · omega
   · exact hE h1
theorem AR.drew {A : Nat → Prop} {x : AV} {u : Value} (h : AR w A β x u) : AR w.drew A β x u :=
 h.mono (w' := w.drew) ⟨Nat.le_refl w.heap.size, fun _ _ hA => ⟨rfl, hA⟩⟩ fun _ _ => rfl
theorem srcKind_spec {t : TypeId} (h : srcKind P t = true) : (∃ e', P.underlying t = some (.slice e')) ∨ P.underlying t = some .string := by
 unfold srcKind at h
 split at h
 · rename_i e he; exact .inl ⟨e, he⟩
 · rename_i he; exact .inr he
 · cases h
theorem cells_of_rows {rows : List (List PV)} {sz : Nat} {cs : Array Value} {A : Nat → Prop} (hl : ∀ (i : Nat) (row : List PV), rows[i]? = some row → row.length = sz) (hs : cs.size = rows.length * sz)
   (hc : ∀ (i : Nat) (row : List PV) (j : Nat) (p : PV), rows[i]? = some row → i < rows.length → row[j]? = some p → PR w A p (cs.getD (i * sz + j) undef) ∧ (cs.getD (i * sz + j) undef).oneCell' = true) :
   ∀ u ∈ cs.toList, u.oneCell' = true := fun u hu => by
 obtain ⟨y, hy, rfl⟩ := List.getElem_of_mem hu
 have hy' : y < rows.length * sz := by rw [← hs]; simpa using hy
 have hsz : 0 < sz := by
   rcases Nat.eq_zero_or_pos sz with e | e
   · subst e; simp at hy'
   · exact e
 have h1 : y / sz < rows.length := Nat.div_lt_of_lt_mul (by rw [Nat.mul_comm]; exact hy')
 have h2 : y % sz < sz := Nat.mod_lt _ hsz
 have h3 : y / sz * sz + y % sz = y := by rw [Nat.mul_comm]; exact Nat.div_add_mod y sz
 have hrow : rows[y / sz]? = some rows[y / sz] := List.getElem?_eq_getElem h1
 have hlen := hl _ _ hrow
 have hp : rows[y / sz][y % sz]? = some rows[y / sz][y % sz] := List.getElem?_eq_getElem (by omega)
 have := (hc _ _ _ _ hrow h1 hp).2
 rw [h3, Array.getD_eq_getD_getElem?, Array.getElem?_eq_getElem (by simpa using hy)] at this
 simpa using this
theorem append_sound (h : Rl Γ s tm w β) {t tx ty : TypeId} {x y : AV} {ux uy : Value} {d : Nat} (hk : srcKind P tx = true) (hd : d ∉ s.used) (hdfx : d ∉ Γ.fx) (hx : AR w (Av Γ.X β) β x ux) (hy : AR w (Av Γ.X β) β y uy)
   (hK : opAppend P t x y s.blk Γ.fx d K) : Out Γ s tm K ((Builtin.append_ #[t, tx] ty #[ux, uy]).run P w) := by
 unfold opAppend at hK
 split at hK
 case h_2 => exact hK.elim
 rename_i e ht
 split at hK
 case h_2 => exact hK.elim
 rename_i sz hs
 split at hK
 case h_2 => exact hK.elim
 rename_i by_ hby
 split at hK
 case h_2 => exact hK.elim
 rename_i z hz
 split at hK
 case h_2 => exact hK.elim
 rename_i hzl
 split at hK
 case h_2 => exact hK.elim
 rename_i news hnews
 obtain ⟨i, zv, hi, hzv, rfl, hone, _⟩ := zeroOf_spec hz
 have hsz : i.size = sz + 1 := szOf_info hs hi
 have hbyi := bytesOf_info hby hi
 have hzs : zv.cells.size = sz + 1 := by have := natEq_spec hzl; simp at this; omega
 obtain ⟨g1, g2, g3⟩ := srcRows_spec h hy hnews
 obtain ⟨cs, c1, c2, c3⟩ := g3 news.length (Nat.le_refl _)
 have hsrc : Src P i.size tx uy news.length cs.toList w := by
   rw [hsz]
   exact ⟨srcKind_spec hk, g1, by rw [Array.toArray_toList]; exact c1 w rfl, by rw [Array.toArray_toList]; exact c1 w.drew rfl, by rw [Array.length_toList, c2], cells_of_rows g2 c2 c3⟩
 have hc3 : ∀ (i : Nat) (row : List PV) (j : Nat) (p : PV), news[i]? = some row → row[j]? = some p → PR w (Av Γ.X β) p (cs.getD (i * (sz + 1) + j) undef) ∧ (cs.getD (i * (sz + 1) + j) undef).oneCell' = true :=
   fun i row j p hi hj => c3 i row j p hi (List.getElem?_eq_some_iff.1 hi).1 hj
 -- a new row
 have grow : ∀ (base : Option Addr) (n cap : Nat) (olds : List (List PV)) (ocs : List Value), (∀ (i : Nat) (row : List PV), olds[i]? = some row → row.length = sz + 1) → olds.length = n → ocs.length = n * (sz + 1) →
     (Builtin.firstCells i.size n (.slice base n cap)).run P w.drew = .ok ocs.toArray w.drew →
     (∀ (i : Nat) (row : List PV) (j : Nat) (p : PV), olds[i]? = some row → row[j]? = some p → PR w (Av Γ.X β) p (ocs.getD (i * (sz + 1) + j) undef) ∧ (ocs.getD (i * (sz + 1) + j) undef).oneCell' = true) →
     cap < n + news.length → (n + news.length) * by_ ≤ 140737488355328 → n + news.length ≤ 140737488355328 →
     ∀ (s' : St) (β1 : BM), Rl Γ s' tm w β1 → (∀ {p : PV} {v : Value}, PR w (Av Γ.X β) p v → PR w (Av Γ.X β1) p v) → d ∉ s'.used →
     ∃ u w' β', (Builtin.append_ #[t, tx] ty #[.slice base n cap, uy]).run P w = .ok u w' ∧ Rl Γ (s'.new d (.row (sz + 1) (olds ++ news))) tm w' β' ∧ AR w' (Av Γ.X β') β' (.lsl d 0 (n + news.length)) u := by
   intro base n cap olds ocs ho1 ho2 ho3 ho4 ho5 hcap hb1 hb2 s' β1 h' hup hds
   have hr := run_append_grow_src (P := P) w t tx ty e i zv ht hi hzv base n cap ocs ho4 uy news.length cs.toList hsrc hcap (by omega) (by rw [hbyi]; exact growslice_fits hcap hb1)
   have hge := grownCap_ge w (n + news.length) cap e
   have hle := grownCap_le_maxLen w (n + news.length) cap e (by unfold maxLen; omega)
   have hget : ∀ (y : Nat), y < (n + news.length) * (sz + 1) → (((ocs ++ cs.toList).toArray ++ Builtin.zeroCells zv.cells (grownCap w (n + news.length) cap e - (n + news.length)))).getD y undef = if y < n * (sz + 1) then ocs.getD y undef else cs.getD (y - n * (sz + 1)) undef := fun y hy => by
     rw [Array.getD_eq_getD_getElem?, Array.getElem?_append_left (by simp [ho3, c2]; rw [Nat.add_mul] at hy; exact hy)]
     simp only [List.getElem?_toArray]
     by_cases hyl : y < n * (sz + 1)
     · rw [if_pos hyl, List.getElem?_append_left (by omega)]; simp [List.getD]
     · rw [if_neg hyl, List.getElem?_append_right (by omega), ho3]; simp [Array.getD_eq_getD_getElem?]
   obtain ⟨β', q1, q2⟩ := row_out h' (w1 := w.drew) rfl rfl tpr rfl hds hdfx e (sz := sz + 1) (rows := olds ++ news)
     (cs := (ocs ++ cs.toList).toArray ++ Builtin.zeroCells zv.cells (grownCap w (n + news.length) cap e - (n + news.length))) (0, 0) (NF.zero _) (by omega)
     (fun x row hx => by
       rw [List.getElem?_append] at hx
       split at hx
       · exact ho1 x row hx
       · exact g2 _ row hx)
     (fun x row y p hx hy => by
       have hxl := (List.getElem?_eq_some_iff.1 hx).1
       simp only [List.length_append] at hxl
       rw [List.getElem?_append] at hx
       have hrl : row.length = sz + 1 := by
         split at hx
         · exact ho1 x row hx
         · exact g2 _ row hx
       have hyl : y < sz + 1 := by have := (List.getElem?_eq_some_iff.1 hy).1; omega
       have hm1 : x * (sz + 1) + (sz + 1) ≤ (n + news.length) * (sz + 1) := by rw [← Nat.succ_mul]; exact Nat.mul_le_mul_right _ (by omega)
       rw [hget _ (by omega)]
       split at hx
       · have hm2 : x * (sz + 1) + (sz + 1) ≤ n * (sz + 1) := by rw [← Nat.succ_mul]; exact Nat.mul_le_mul_right _ (by omega)
         rw [if_pos (by omega)]
         exact ⟨hup (ho5 x row y p hx hy).1, (ho5 x row y p hx hy).2⟩
       · have hm2 : n * (sz + 1) ≤ x * (sz + 1) := Nat.mul_le_mul_right _ (by omega)
         rw [if_neg (by omega)]
         have e1 : x * (sz + 1) + y - n * (sz + 1) = (x - olds.length) * (sz + 1) + y := by rw [ho2, Nat.sub_mul]; omega
         rw [e1]
         exact ⟨hup (hc3 _ row y p hx hy).1, (hc3 _ row y p hx hy).2⟩)
     (cap := grownCap w (n + news.length) cap e) (by simp; omega)
     (by
       simp only [Array.size_append, List.size_toArray, List.length_append, ho3, Array.length_toList, c2, size_zeroCells, hzs]
       rw [← Nat.add_mul, ← Nat.add_mul]
       exact Nat.mul_le_mul_right _ (by omega)) hle
   refine ⟨_, _, β', hr, q1, ?_⟩
   simpa [ho2] using q2
 -- the row stays where it is
 split at hK
 · -- nil
   obtain ⟨hb1, hb2, hK⟩ := hK
   rw [hx.val_inv]
   by_cases hn : news.length = 0
   · have hnil : news = [] := List.length_eq_zero_iff.1 hn
     subst hnil
     have hcs : cs.toList = [] := List.length_eq_zero_iff.1 (by simp [c2])
     rw [hcs] at hsrc
     have hr := run_append_nothing (P := P) w t tx ty e i ht hi none 0 0 (Nat.le_refl _) uy hsrc
     have hn' := h.newK hd hdfx ⟨0, sz + 1, 0, 0, true⟩ (.row (sz + 1) []) (w' := w) (Nat.le_refl _) (fun _ _ => rfl) rfl tpr rfl (fun hv => by cases hv) (by simp [Blk.keys])
       (fun β' e1 e2 had => ⟨rfl, by omega, rfl, by simp, .inl ⟨rfl, rfl⟩⟩)
     exact ⟨_, _, _, _, _, hK, hr, hn', .lslV d 0 ⟨0, sz + 1, 0, 0, true⟩ none (by simp) (Nat.zero_le _), by simp [AV.keys, St.acts, St.act, St.new]⟩
   · obtain ⟨u, w', β', r1, r2, r3⟩ := grow none 0 0 [] [] (by simp) rfl (by simp) (run_firstCells_none w.drew _ _ _ _) (by simp) (by omega) (by rw [Nat.zero_add]; exact hb1) (by omega) s β h (fun hp => hp) hd
     rw [Nat.zero_add] at r3
     exact ⟨_, _, _, _, β', hK, r1, by simpa [St.acts, St.act] using r2, r3, by simp [AV.keys, St.acts, St.act, St.new]⟩
 · rename_i k n
   split at hK
   case h_2 => exact hK.elim
   rename_i sz' rows hblk
   split at hK
   case h_2 => exact hK.elim
   rename_i hsz'
   split at hK
   case h_2 => exact hK.elim
   rename_i hkfx
   have hsz' := Nat.eq_of_beq_eq_true hsz'
   subst hsz'
   obtain ⟨hn, hb1, hb2, hK⟩ := hK
   subst hn
   have hkfx := freshIn_spec hkfx
   obtain ⟨bi, hβ, hb⟩ := h.live hblk
   have hb' := hb
   obtain ⟨b1, b2, b2', b3, b4⟩ := hb'
   have hup : ∀ {p : PV} {v : Value}, PR w (Av Γ.X β) p v → PR w (Av Γ.X (fun j => if j = k then none else β j)) p v := fun hp =>
     hp.mono ⟨Nat.le_refl _, fun b _ hA => ⟨rfl, fun hA' => hA (by
       rcases hA' with hx | ⟨j, bj, hj, hv, hbb⟩
       · exact .inl hx
       · refine .inr ⟨j, bj, ?_, hv, hbb⟩
         by_cases e : j = k
         · simp [e] at hj
         · simpa [e] using hj)⟩⟩
   obtain ⟨L, hrl⟩ : ∃ L, L = rows.length := ⟨_, rfl⟩
   rw [← hrl] at hx
   cases hx with
   | lslDead _ _ _ _ hd => rw [hβ] at hd; cases hd
   | lslV _ _ bi' a hbb hil =>
     have hrl0 : rows = [] := List.length_eq_zero_iff.1 hrl.symm
     subst hrl0
     by_cases hn : news.length = 0
     · have hnil : news = [] := List.length_eq_zero_iff.1 hn
       subst hnil
       have hcs : cs.toList = [] := List.length_eq_zero_iff.1 (by simp [c2])
       rw [hcs] at hsrc
       have hr := run_append_nothing (P := P) w t tx ty e i ht hi a 0 0 (Nat.le_refl _) uy hsrc
       have hn' := (h.killK hkfx).newK (k := d) hd hdfx ⟨0, sz + 1, 0, 0, true⟩ (.row (sz + 1) []) (w' := w) (Nat.le_refl _) (fun _ _ => rfl) rfl tpr rfl (fun hv => by cases hv) (by simp [Blk.keys])
         (fun β' e1 e2 had => ⟨rfl, by omega, rfl, by simp, .inl ⟨rfl, rfl⟩⟩)
       exact ⟨_, _, _, _, _, hK, hr, hn', .lslV d 0 ⟨0, sz + 1, 0, 0, true⟩ a (by simp) (Nat.zero_le _), by simp [AV.keys, St.acts, St.act, St.new]⟩
     · obtain ⟨u, w', β', r1, r2, r3⟩ := grow a 0 0 [] [] (by simp) rfl (by simp) (by cases a <;> simp [Builtin.firstCells, loadCells, loadCellsFrom]) (by simp) (by omega) (by simpa using hb1) (by simpa using hb2) _ _ (h.killK hkfx) hup hd
       exact ⟨_, _, _, _, β', hK, r1, by simpa [St.acts, St.act] using r2, by simpa using r3, by simp [AV.keys, St.acts, St.act, St.new]⟩
   | lsl _ _ _ bi' cap hbb hv hncap hcc hil hm =>
     rw [hβ] at hbb; cases hbb
     subst hrl
     rcases b4 with ⟨b4, _⟩ | ⟨_, cur, et, fz, b5, b6, b7, b8, b9⟩
     · rw [hv] at b4; cases b4
     rw [Nat.zero_mul, Nat.zero_add] at *
     by_cases hroom : rows.length + news.length ≤ cap
     · -- in place
       have hfit : rows.length * (sz + 1) + (news.length * (sz + 1)) ≤ cur.size := by
         rw [← Nat.add_mul, ← b7]
         refine Nat.le_trans (Nat.mul_le_mul_right _ hroom) ?_
         rw [b1] at hcc; exact hcc
       have hcl : cs.toList.length = news.length * (sz + 1) := by simp [c2]
       have hr := run_append_room_src (P := P) w t tx ty e i ht hi bi.b 0 rows.length cap uy news.length cs.toList hsrc hroom
         (fun j hj => by
           rw [hsz, getD_cell b5 (by rw [hcl] at hj; omega)]; rfl)
         (fun j hj => by
           rw [hsz]
           have := b6 (0 + rows.length * (sz + 1) + j) (by rw [hcl] at hj; omega)
           simp only [World.frozen?, b5]
           simpa using this)
       obtain ⟨w', cs', r1, r2, r3, r4, r5, r6, r7, r8, r9⟩ := run_stores P bi.b et fz cs.toList (rows.length * (sz + 1)) 0 cur w b5 b6 (by omega) hsrc.one
       have hst := run_storeCells_cells (P := P) bi.b (rows.length * (sz + 1)) cs.toList 0 w (fun j hj => by rw [getD_cell b5 (by omega)]; rfl) (fun j hj => by
           have := b6 (rows.length * (sz + 1) + 0 + j) (by omega)
           simp only [World.frozen?, b5]
           simpa using this) hsrc.one
       rw [hst] at r1
       have hw' : w.setCells bi.b (0 + rows.length * i.size) cs.toList = w' := by
         rw [hsz, Nat.zero_add]
         injection r1 with _ r1
       rw [hw'] at hr
       obtain ⟨β', q1, q2⟩ := h.moveK (w' := w') hβ hv hkfx hd hdfx (bi' := ⟨bi.b, sz + 1, bi.tot, rows.length + news.length, false⟩) rfl rfl r5 (fun b hbne => r6 b hbne) r7 r8 r9 (sz := sz + 1) (rows := rows ++ news)
         (fun β' had => ⟨rfl, by omega, by simp, fun x row hx => by
             rw [List.getElem?_append] at hx
             split at hx
             · exact b3 x row hx
             · exact g2 _ row hx, .inr ⟨rfl, cs', et, fz, r2, fun j hj => b6 j (by omega), b7.trans r3.symm, by simp only [List.length_append]; rw [Nat.add_mul]; show _ ≤ bi.tot; omega, fun x row y p hx hy => by
             have hxl := (List.getElem?_eq_some_iff.1 hx).1
             simp only [List.length_append] at hxl
             rw [List.getElem?_append] at hx
             have hrl : row.length = sz + 1 := by
               split at hx
               · exact b3 x row hx
               · exact g2 _ row hx
             have hyl : y < sz + 1 := by have := (List.getElem?_eq_some_iff.1 hy).1; omega
             rw [r4]
             split at hx
             · have hm2 : x * (sz + 1) + (sz + 1) ≤ rows.length * (sz + 1) := by rw [← Nat.succ_mul]; exact Nat.mul_le_mul_right _ (by omega)
               rw [if_neg (by omega)]
               exact ⟨(b9 x row y p hx hy).1.mono had, (b9 x row y p hx hy).2⟩
             · have hm2 : rows.length * (sz + 1) ≤ x * (sz + 1) := Nat.mul_le_mul_right _ (by omega)
               have hm1 : x * (sz + 1) + (sz + 1) ≤ (rows.length + news.length) * (sz + 1) := by rw [← Nat.succ_mul]; exact Nat.mul_le_mul_right _ (by omega)
               rw [Nat.add_mul] at hm1
               rw [if_pos (by rw [hcl]; omega), getD_toList]
               have e1 : x * (sz + 1) + y - (rows.length * (sz + 1) + 0) = (x - rows.length) * (sz + 1) + y := by rw [Nat.sub_mul]; omega
               rw [e1]
               exact ⟨(hc3 _ row y p hx hy).1.mono had, (hc3 _ row y p hx hy).2⟩⟩⟩)
       refine ⟨_, _, _, _, β', hK, hr, by simpa [St.acts, St.act] using q1, ?_, by simp [AV.keys, St.acts, St.act, St.new]⟩
       have := AR.lsl (w := w') (A := Av Γ.X β') (β := β') d 0 (rows.length + news.length) _ cap q2 rfl hroom (by rw [Nat.zero_add]; show cap * (sz + 1) ≤ bi.tot; rw [b1] at hcc; exact hcc) (by rw [Nat.zero_add]; exact Nat.le_refl _) hm
       simpa using this
     · have hcap0 : rows.length * (sz + 1) ≤ cur.size := by omega
       obtain ⟨u, w', β', r1, r2, r3⟩ := grow (some ⟨bi.b, 0, none⟩) rows.length cap rows (((List.range (rows.length * (sz + 1))).map fun y => cur.getD y undef)) b3 rfl (by simp)
         (by
           rw [hsz]
           simp only [Builtin.firstCells]
           refine run_loadCells (P := P) w.drew _ (rows.length * (sz + 1)) _ fun y hy => ?_
           rw [Addr.add_lit, Nat.zero_add]
           exact getD_cell (w := w) b5 (by omega))
         (fun x row y p hx hy => by
           have hrl := b3 x row hx
           have hxl := (List.getElem?_eq_some_iff.1 hx).1
           have hyl : y < sz + 1 := by have := (List.getElem?_eq_some_iff.1 hy).1; omega
           have hm2 : x * (sz + 1) + (sz + 1) ≤ rows.length * (sz + 1) := by rw [← Nat.succ_mul]; exact Nat.mul_le_mul_right _ (by omega)
           have e1 : ((List.range (rows.length * (sz + 1))).map fun y => cur.getD y undef).getD (x * (sz + 1) + y) undef = cur.getD (x * (sz + 1) + y) undef := by
             rw [List.getD, List.getElem?_map, List.getElem?_range (by omega)]; rfl
           rw [e1]
           exact b9 x row y p hx hy) (by omega) hb1 hb2 _ _ (h.killK hkfx) hup hd
       exact ⟨_, _, _, _, β', hK, r1, by simpa [St.acts, St.act] using r2, r3, by simp [AV.keys, St.acts, St.act, St.new]⟩
 · exact hK.elim
end
end Go.Avc
/- Slices of slices, literals, copy, conversions: sound; all together. Conditions: none. -/
namespace Go.Avc
open Go.RowKit
theorem Rl.congr {Γ : Ctx} {s s' : St} {tm : Array Value} {w : World} {β : BM} (h : Rl Γ s tm w β) (h1 : ∀ t, s'.get t = s.get t) (h2 : ∀ k, s'.blk k = s.blk k) (h3 : s'.used = s.used) : Rl Γ s' tm w β :=
 { h with
   slots := fun t => by rw [h1]; exact h.slots t
   blks := fun k => by rw [h2]; exact h.blks k
   used1 := fun t k hk => by rw [h1] at hk; rw [h3]; exact h.used1 t k hk
   used2 := fun k b hb => by rw [h2] at hb; rw [h3]; exact h.used2 k b hb }
section
variable {Γ : Ctx} {s : St} {tm : Array Value} {w : World} {β : BM} {P : Program} {K : Kont}
def optAR (Γ : Ctx) (w : World) (β : BM) : Option AV → Option Value → Prop
 | none, none => True
 | some x, some u => AR w (Av Γ.X β) β x u
 | _, _ => False
theorem run_bound (k : IntKind) (i : Int) (y : Nat) (code : BoundsCode) (h0 : 0 ≤ i) (h1 : i ≤ y) : (Instr.sliceBound (.int k i) y code).run P w = .ok i.toNat w := run_sliceBound w k i y code h0 h1
theorem bounds_sound {isS : Bool} {len cap : Nat} (hlc : len ≤ cap) {lo hi mx : Option AV} {lo' hi' mx' : Option Value} (hlo : optAR Γ w β lo lo') (hhi : optAR Γ w β hi hi') (hmx : optAR Γ w β mx mx') {K : Nat → Nat → Nat → Prop} (hK : boundsVC len lo hi mx K) :
   ∃ l h m k, K l h k ∧ (Instr.sliceBounds isS len cap lo' hi' mx').run P w = .ok (l, h, m) w ∧ l ≤ h ∧ h ≤ m ∧ h ≤ len ∧ m ≤ cap ∧ (mx' = none → m = cap) ∧ (mx' ≠ none → m = k) := by
 unfold boundsVC at hK
 have low : ∀ (h k : Nat), lowVC lo h k K → ∃ l, K l h k ∧ l ≤ h ∧ ((lo' = none ∧ l = 0) ∨ ∃ v, lo' = some v ∧ ∀ code, (Instr.sliceBound v h code).run P w = .ok l w) := by
   intro h k hk
   unfold lowVC at hk
   split at hk
   · cases lo' with
     | none => exact ⟨0, hk, Nat.zero_le _, .inl ⟨rfl, rfl⟩⟩
     | some v => exact hlo.elim
   · cases lo' with
     | none => exact hlo.elim
     | some v =>
       obtain ⟨h0, h1, hk⟩ := hk
       have e := AR.val_inv (Γ := Γ) hlo
       subst e
       exact ⟨_, hk, by omega, .inr ⟨_, rfl, fun code => run_bound _ _ _ _ h0 h1⟩⟩
   · exact hk.elim
 cases mx with
 | none =>
   cases mx' with
   | some v => exact hmx.elim
   | none =>
     cases hi with
     | none =>
       cases hi' with
       | some v => exact hhi.elim
       | none =>
         obtain ⟨l, hk, hl, hf⟩ := low len len hK
         refine ⟨l, len, cap, len, hk, ?_, hl, hlc, Nat.le_refl _, Nat.le_refl _, fun _ => rfl, fun h => absurd rfl h⟩
         rcases hf with ⟨rfl, rfl⟩ | ⟨v, rfl, hf⟩ <;> simp [Instr.sliceBounds, *]
     | some x =>
       cases hi' with
       | none => exact hhi.elim
       | some v =>
         simp only at hK
         split at hK
         · rename_i heq
           cases heq
         · rename_i k h heq
           cases heq
           have e := AR.val_inv (Γ := Γ) hhi
           subst e
           obtain ⟨h0, h1, hK⟩ := hK
           obtain ⟨l, hk, hl, hf⟩ := low h.toNat len hK
           refine ⟨l, h.toNat, cap, len, hk, ?_, hl, by omega, by omega, Nat.le_refl _, fun _ => rfl, fun h => absurd rfl h⟩
           rcases hf with ⟨rfl, rfl⟩ | ⟨v, rfl, hf⟩ <;> simp [Instr.sliceBounds, run_bound (P := P) (w := w) k h cap _ h0 (by omega), *]
         · exact hK.elim
 | some x =>
   cases mx' with
   | none => exact hmx.elim
   | some v =>
     simp only at hK
     split at hK
     · rename_i heq; cases heq
     · rename_i km m heq
       cases heq
       have e := AR.val_inv (Γ := Γ) hmx
       subst e
       split at hK
       · rename_i kh h
         cases hi' with
         | none => exact hhi.elim
         | some v =>
           have e := AR.val_inv (Γ := Γ) hhi
           subst e
           obtain ⟨m0, m1, h0, h1, hK⟩ := hK
           obtain ⟨l, hk, hl, hf⟩ := low h.toNat m.toNat hK
           refine ⟨l, h.toNat, m.toNat, m.toNat, hk, ?_, hl, by omega, by omega, by omega, (fun h => by cases h), fun _ => rfl⟩
           rcases hf with ⟨rfl, rfl⟩ | ⟨v, rfl, hf⟩ <;> simp [Instr.sliceBounds, run_bound (P := P) (w := w) km m cap _ m0 (by omega), run_bound (P := P) (w := w) kh h m.toNat _ h0 (by omega), *]
       · exact hK.elim
     · exact hK.elim
theorem cut_get {α : Type} {l : List α} {i j x : Nat} {a : α} (h : (cut l i j)[x]? = some a) : l[i + x]? = some a ∧ x < j - i := by
 have hx : x < j - i := by have := (List.getElem?_eq_some_iff.1 h).1; simp [cut] at this; omega
 unfold cut at h
 rw [List.getElem?_take, if_pos hx, List.getElem?_drop] at h
 exact ⟨h, hx⟩
theorem cut_length {α : Type} {l : List α} {i j : Nat} (h : j ≤ l.length) : (cut l i j).length = j - i := by simp [cut]; omega
theorem sliced_row {bi : BI} {k i : Nat} (hβ : β k = some bi) {a : Option Addr} {l h m cap : Nat} (hl : l ≤ h) (hh : h ≤ m) (hn : i + h ≤ bi.len) (hm : m ≤ cap) (hcap : cap ≤ maxLen)
   (hr : 0 < m - l → bi.virt = false ∧ a = some ⟨bi.b, i * bi.sz, none⟩ ∧ (i + m) * bi.sz ≤ bi.tot) {A : Nat → Prop} :
   AR w A β (.lsl k (i + l) (h - l)) (.slice (if m = l then a else a.map (·.add (l * bi.sz))) (h - l) (m - l)) := by
 by_cases e : m = l
 · rw [if_pos e]
   have e1 : h - l = 0 := by omega
   have e2 : m - l = 0 := by omega
   rw [e1, e2]
   exact .lslV _ _ bi a hβ (by omega)
 · rw [if_neg e]
   obtain ⟨h1, rfl, h3⟩ := hr (by omega)
   have := AR.lsl (w := w) (A := A) (β := β) k (i + l) (h - l) bi (m - l) hβ h1 (by omega) (by rw [show i + l + (m - l) = i + m by omega]; exact h3) (by omega) (by omega)
   simp only [Option.map_some, Addr.add_lit]
   rw [Nat.add_mul] at this
   exact this
theorem slice_sound (h : Rl Γ s tm w β) {t : TypeId} {x : AV} {u : Value} {lo hi mx : Option AV} {lo' hi' mx' : Option Value} (hx : AR w (Av Γ.X β) β x u) (hkx : ∀ k ∈ x.keys, k ∈ s.used)
   (hlo : optAR Γ w β lo lo') (hhi : optAR Γ w β hi hi') (hmx : optAR Γ w β mx mx') (hK : opSlice P t x lo hi mx s.blk K) : Out Γ s tm K ((Instr.sliceAt t u lo' hi' mx').run P w) := by
 unfold opSlice at hK
 split at hK
 · rename_i e ht
   have hA : (Instr.sliceAt t u lo' hi' mx').run P w = (Instr.slice t u lo' hi' mx').run P w := by simp [Instr.sliceAt, run_underlying ht]
   rw [hA]
   split at hK
   · rename_i sz rows
     split at hK
     case h_2 => exact hK.elim
     rename_i hsz
     have hsz := natEq_spec hsz
     cases hx with
     | pure _ _ hp =>
     cases hp with
     | slnil =>
       obtain ⟨l, h', m, k, hk, hr, b1, b2, b3, b4, _⟩ := bounds_sound (P := P) (isS := true) (len := 0) (cap := 0) (Nat.le_refl _) hlo hhi hmx hK
       have : l = 0 := by omega
       have : h' = 0 := by omega
       have : m = 0 := by omega
       subst l h' m
       refine Out.same h hk (u := .slice none 0 0) ?_ (.pure _ _ (by simp [cut]; exact .slnil sz)) (by simp [AV.keys])
       simp [Instr.slice, run_underlying ht, hr, run_sizeOf hsz]
     | sl _ _ a cap us hc hm hs hb hl hr' hp =>
       obtain ⟨l, h', m, k, hk, hr, b1, b2, b3, b4, _⟩ := bounds_sound (P := P) (isS := true) hc hlo hhi hmx hK
       refine Out.same h hk (u := .slice (if m = l then some a else some (a.add (l * sz))) (h' - l) (m - l)) ?_ (.pure _ _ ?_) (by simp [AV.keys])
       · simp [Instr.slice, run_underlying ht, hr, run_sizeOf hsz]
       · have hlen : (cut rows l h').length = h' - l := cut_length b3
         have e : (if m = l then some a else some (a.add (l * sz))) = some (if m = l then a else a.add (l * sz)) := by split <;> rfl
         rw [e, ← hlen]
         refine PR.sl sz _ _ _ (fun x y => us (l + x) y) (by omega) (by omega) hs (fun hn => ?_) (fun x row hx => hl _ row (cut_get hx).1) (fun x row y p hx hy => ?_) (fun x row y p hx hy => hp _ row y p (cut_get hx).1 hy)
         · rw [if_neg (by omega), block_add]; exact hb (by omega)
         · obtain ⟨hx', hxl⟩ := cut_get hx
           rw [if_neg (by omega), add_add]
           have := hr' _ row y p hx' hy
           rw [Nat.add_mul, Nat.add_assoc] at this
           exact this
   · rename_i k i n
     split at hK
     case h_2 => exact hK.elim
     rename_i sz rows hblk
     split at hK
     case h_2 => exact hK.elim
     rename_i hsz
     have hsz := natEq_spec hsz
     obtain ⟨bi, hβ, hb⟩ := h.live hblk
     have hb' := hb
     obtain ⟨b1, b2, b2', b3, b4⟩ := hb'
     cases hx with
     | lslDead _ _ _ _ hd => rw [hβ] at hd; cases hd
     | lslV _ _ bi' a hbb hil =>
       rw [hβ] at hbb; cases hbb
       obtain ⟨l, h', m, k', hk, hr, c1, c2, c3, c4, _⟩ := bounds_sound (P := P) (isS := true) (len := 0) (cap := 0) (Nat.le_refl _) hlo hhi hmx hK
       refine Out.same h hk ?_ (sliced_row (a := a) (cap := 0) hβ c1 c2 (by omega) c4 (Nat.zero_le _) (fun hlt => by omega)) (by simpa [AV.keys] using hkx)
       simp [Instr.slice, run_underlying ht, hr, run_sizeOf hsz, b1]
     | lsl _ _ _ bi' cap hbb hv hn hcc hil hm =>
       rw [hβ] at hbb; cases hbb
       obtain ⟨l, h', m, k', hk, hr, c1, c2, c3, c4, _⟩ := bounds_sound (P := P) (isS := true) hn hlo hhi hmx hK
       refine Out.same h hk ?_ (sliced_row (a := some ⟨bi.b, i * bi.sz, none⟩) (cap := cap) hβ c1 c2 (by omega) c4 hm (fun hlt => ⟨hv, rfl, Nat.le_trans (Nat.mul_le_mul_right _ (by omega)) hcc⟩)) (by simpa [AV.keys] using hkx)
       simp [Instr.slice, run_underlying ht, hr, run_sizeOf hsz, b1]
   · split at hK
     case h_2 => exact hK.elim
     rename_i sz hsz
     rw [hx.val_inv]
     obtain ⟨l, h', m, k, hk, hr, b1, b2, b3, b4, _⟩ := bounds_sound (P := P) (isS := true) (len := 0) (cap := 0) (Nat.le_refl _) hlo hhi hmx hK
     have : l = 0 := by omega
     have : h' = 0 := by omega
     have : m = 0 := by omega
     subst l h' m
     refine Out.same h hk (u := .slice none 0 0) ?_ (.pure _ _ (.val _)) (by simp [AV.keys])
     simp [Instr.slice, run_underlying ht, hr, run_sizeOf hsz]
   · exact hK.elim
 · rename_i len e ht
   split at hK
   case h_2 =>
     unfold opSlicePar at hK
     split at hK
     case h_2 => exact hK.elim
     rename_i sz rows hpar
     rw [parOf_some hpar] at hx
     split at hK
     case h_2 => exact hK.elim
     rename_i hsz
     have hsz := natEq_spec hsz
     obtain ⟨hlen, hlm, hK⟩ := hK
     cases hx with
     | pure _ _ hp =>
     cases hp with
     | par _ _ a us hs hb hl hr' hp =>
     obtain ⟨l, h', m, k', hk, hr, b1, b2, b3, b4, _⟩ := bounds_sound (P := P) (isS := false) (len := len) (cap := len) (Nat.le_refl _) hlo hhi hmx hK
     refine Out.same h hk (u := .slice (some (if m = l then a else a.add (l * sz))) (h' - l) (m - l)) ?_ (.pure _ _ ?_) (by simp [AV.keys])
     · simp [Instr.sliceAt, Instr.sureAddr, run_underlying ht, hr, run_sizeOf hsz]
     · have hlen2 : (cut rows l h').length = h' - l := cut_length (by omega)
       rw [← hlen2]
       refine PR.sl sz _ _ _ (fun x y => us (l + x) y) (by omega) (by unfold maxLen; omega) hs (fun hn => ?_) (fun x row hx => hl _ row (cut_get hx).1) (fun x row y p hx hy => ?_) (fun x row y p hx hy => hp _ row y p (cut_get hx).1 hy)
       · rw [if_neg (by omega), block_add]; exact hb (by omega)
       · obtain ⟨hx', hxl⟩ := cut_get hx
         rw [if_neg (by omega), add_add]
         have := hr' _ row y p hx' hy
         rw [Nat.add_mul, Nat.add_assoc] at this
         exact this
   rename_i k i j
   split at hK
   case h_2 => exact hK.elim
   rename_i sz rows hblk
   split at hK
   case h_2 => exact hK.elim
   rename_i hsz
   have hsz := natEq_spec hsz
   obtain ⟨rfl, rfl, hlen, hlm, hK⟩ := hK
   obtain ⟨bi, hβ, hb⟩ := h.live hblk
   have hb' := hb
   obtain ⟨b1, b2, b2', b3, b4⟩ := hb'
   obtain rfl := hx.loc_inv hβ
   obtain ⟨l, h', m, k', hk, hr, c1, c2, c3, c4, _⟩ := bounds_sound (P := P) (isS := false) (len := len) (cap := len) (Nat.le_refl _) hlo hhi hmx hK
   have hsl := sliced_row (w := w) (i := 0) (a := some ⟨bi.b, 0 * bi.sz + 0, none⟩) (cap := len) (A := Av Γ.X β) hβ c1 c2 (by omega) c4 (by unfold maxLen; omega) (fun hlt => by
     rcases b4 with ⟨_, rfl⟩ | ⟨b4, cur, et, fz, b5, b6, b7, b8, b9⟩
     · simp at hlen; omega
     · refine ⟨b4, rfl, Nat.le_trans (Nat.mul_le_mul_right _ ?_) (by rw [← b1] at b8; exact b8)⟩
       omega)
   rw [Nat.zero_add] at hsl
   refine Out.same h hk ?_ hsl (by simpa [AV.keys] using hkx)
   simp [Instr.sliceAt, Instr.sureAddr, run_underlying ht, hr, run_sizeOf hsz, b1]
   split <;> rfl
 · rename_i ht
   have hA : (Instr.sliceAt t u lo' hi' mx').run P w = (Instr.slice t u lo' hi' mx').run P w := by simp [Instr.sliceAt, run_underlying ht]
   rw [hA]
   split at hK
   · rename_i str
     rw [hx.val_inv]
     obtain ⟨l, h', m, k, hk, hr, b1, b2, b3, b4, _⟩ := bounds_sound (P := P) (isS := false) (len := str.size) (cap := str.size) (Nat.le_refl _) hlo hhi hmx hK
     cases mx' with
     | some v => exact hmx.elim
     | none =>
       refine Out.same h hk (u := .string (str.extract l h')) ?_ (.pure _ _ (.val _)) (by simp [AV.keys])
       simp [Instr.slice, run_underlying ht, hr]
   · exact hK.elim
 · exact hK.elim
end
end Go.Avc
/- Literals, copy, conversions, greatest and least: sound; the operations all together. Conditions: none. -/
namespace Go.Avc
open Go.RowKit
section
variable {Γ : Ctx} {s : St} {tm : Array Value} {w : World} {β : BM} {P : Program} {K : Kont}
theorem rowsOf_spec {blk : Nat → Option Blk} {sz : Nat} {get : Operand → AV} : ∀ {parts : List (Nat × Operand)} {i : Nat} {rows : List (List PV)}, rowsOf blk sz get i parts = some rows →
   rows.length = parts.length ∧ parts = ((parts.map (·.2)).zipIdx i).map (fun x => (x.2, x.1)) ∧
   ∀ (j : Nat) (row : List PV), rows[j]? = some row → ∃ x, parts[j]?.map (·.2) = some x ∧ allOne blk (cellsOf (get x)) = true ∧ toPVL blk (cellsOf (get x)) = some row ∧ row.length = sz
 | [], i, rows, h => by simp only [rowsOf, Option.some.injEq] at h; subst h; simp
 | (j, x) :: l, i, rows, h => by
   unfold rowsOf at h
   split at h
   case h_2 => cases h
   rename_i hj
   split at h
   case h_2 => cases h
   rename_i h1
   split at h
   case h_2 => cases h
   rename_i ps hps
   split at h
   case h_2 => cases h
   rename_i hlen
   have hj := Nat.eq_of_beq_eq_true hj
   subst hj
   have hlen := Nat.eq_of_beq_eq_true hlen
   simp only [Option.map_eq_some_iff] at h
   obtain ⟨q, hq, rfl⟩ := h
   obtain ⟨g1, g2, g3⟩ := rowsOf_spec hq
   refine ⟨by simp [g1], ?_, fun y row hy => ?_⟩
   · simp only [List.map_cons, List.zipIdx_cons]
     rw [← g2]
   · cases y with
     | zero => simp only [List.getElem?_cons_zero, Option.some.injEq] at hy; subst hy; exact ⟨x, rfl, h1, hps, hlen⟩
     | succ y => simpa using g3 y row (by simpa using hy)
theorem keysOps_mem {get : Operand → AV} : ∀ {l : List (Nat × Operand)} {k : Nat}, k ∈ keysOps get l ↔ ∃ x ∈ l, k ∈ (get x.2).keys
 | [], k => by simp [keysOps]
 | (i, x) :: l, k => by simp [keysOps, keysOps_mem (l := l)]
theorem buildSlice_sound {a : Act} (h : Rl Γ s a.tmps w β) {t : TypeId} {len : Nat} {parts : Array (Nat × Operand)} {d : Nat} (hd : d ∉ s.used) (hdfx : d ∉ Γ.fx) {md : Bool} (hK : opBuildSlice md P t len parts.toList s.geto s.blk Γ.fx d K) :
   Out Γ s a.tmps K ((Instr.buildSlice t len (parts.map fun (i, x) => (i, a.eval x))).run P w) := by
 unfold opBuildSlice at hK
 split at hK
 case h_2 => exact hK.elim
 rename_i e ht
 split at hK
 case h_2 => exact hK.elim
 rename_i sz hs
 split at hK
 case h_2 => exact hK.elim
 rename_i z hz
 split at hK
 case h_2 => exact hK.elim
 rename_i hzl
 split at hK
 case h_2 => exact hK.elim
 rename_i rows hrows
 split at hK
 case h_2 => exact hK.elim
 rename_i hpl
 split at hK
 case h_2 => exact hK.elim
 rename_i hdj
 obtain ⟨hlim, hK⟩ := hK
 obtain ⟨i, zv, hi, hzv, rfl, hone, hzr⟩ := zeroOf_spec hz
 have hsz : i.size = sz + 1 := szOf_info hs hi
 have hpl := Nat.eq_of_beq_eq_true hpl
 obtain ⟨r1, r2, r3⟩ := rowsOf_spec hrows
 let vs : List Value := (parts.toList.map (·.2)).map a.eval
 have hvl : vs.length = len := by simp [vs]; simpa using hpl
 have hv : ∀ (j : Nat) (row : List PV), rows[j]? = some row → ∃ x, (parts.toList.map (·.2))[j]? = some x ∧ vs[j]? = some (a.eval x) ∧ (a.eval x).cells.size = sz + 1 ∧ toPVL s.blk (cellsOf (s.geto x)) = some row ∧
     ∀ (y : Nat) (av : AV), (cellsOf (s.geto x))[y]? = some av → AR w (Av Γ.X β) β av ((a.eval x).cells.getD y undef) ∧ ((a.eval x).cells.getD y undef).oneCell' = true := fun j row hj => by
   obtain ⟨x, hx, h1, h2, h3⟩ := r3 j row hj
   obtain ⟨hl, hc⟩ := cellsOf_spec h (geto_AR h x) (B := s.blk) (fun _ h => h) h1
   have hx' : (parts.toList.map (·.2))[j]? = some x := by rw [List.getElem?_map]; exact hx
   exact ⟨x, hx', by simp only [vs, List.getElem?_map, hx', Option.map_some], by rw [hl, ← (toPVL_some h2).1]; exact h3, h2, hc⟩
 have hall : ∀ v ∈ vs, v.cells.size = sz + 1 := fun v hvm => by
   obtain ⟨j, hj, rfl⟩ := List.getElem_of_mem hvm
   have hjr : j < rows.length := by rw [r1]; simp [vs] at hj; simpa using hj
   obtain ⟨x, _, g2, g3, _⟩ := hv j _ (List.getElem?_eq_getElem hjr)
   rw [List.getElem?_eq_getElem hj] at g2
   rw [Option.some.inj g2]
   exact g3
 have hpart : (parts.map fun (i, x) => (i, a.eval x)).toList = (vs.zipIdx 0).map fun x => (x.2, x.1) := by
   rw [Array.toList_map]
   conv => lhs; rw [r2]
   simp only [vs, List.zipIdx_map, List.map_map]
   rfl
 obtain ⟨cells, hcells⟩ : ∃ cells : Array Value, cells = (vs.flatMap fun v => v.cells.toList).toArray := ⟨_, rfl⟩
 have hget : ∀ k, cells[k]? = (vs[k / (sz + 1)]?).bind (fun v => v.cells[k % (sz + 1)]?) := fun k => by
   rw [hcells, List.getElem?_toArray, Great.flat_get (Nat.succ_pos _) vs hall k]
 have hcs : cells.size = len * (sz + 1) := by
   rw [hcells, List.size_toArray, ← hvl]
   have : ∀ (l : List Value), (∀ v ∈ l, v.cells.size = sz + 1) → (l.flatMap fun v => v.cells.toList).length = l.length * (sz + 1) := by
     intro l
     induction l with
     | nil => intro _; simp
     | cons v l ih => intro hl; rw [List.flatMap_cons, List.length_append, ih fun v hv => hl v (List.mem_cons_of_mem _ hv), Array.length_toList, hl v List.mem_cons_self, List.length_cons, Nat.succ_mul]; omega
   exact this vs hall
 have hrun : (Instr.buildSlice t len (parts.map fun (i, x) => (i, a.eval x))).run P w = .ok (.slice (some ⟨w.heap.size, 0, none⟩) len len) (w.alloc (.cells cells e)) := by
   have hfill : ∀ (z : Array Value), z.size = len * (sz + 1) → Instr.fill (fun i => some (i * (sz + 1), sz + 1)) z (parts.map fun (i, x) => (i, a.eval x)).toList = some cells := fun z hz => by
     rw [hpart, hcells]
     exact Great.fill_whole (Nat.succ_pos _) vs z hall (by rw [hvl, hz])
   have hlim' : ¬ (16777216 < len * (sz + 1)) := by omega
   simp only [Instr.buildSlice, Sem.run_bind, run_underlying ht, run_sizeOf hs, Result.andThen_ok, Nat.reducePow, gt_iff_lt, Nat.succ_eq_add_one]
   rw [if_neg hlim']
   by_cases h0 : len * (sz + 1) = 0
   · simp only [Sem.run_pure, Result.andThen_ok, if_pos h0, Sem.run_bind]
     rw [hfill _ (by simp)]
     simp [newRow]
   · simp only [Sem.run_pure, Result.andThen_ok, if_neg h0, Sem.run_bind, hzr]
     rw [hfill _ (by simp)]
     simp [newRow]
 obtain ⟨β1, f1, f2, f3, f4⟩ := fks h md (disj_spec hdj)
 have hdu : d ∉ (s.acts (fk md (keysOps s.geto parts.toList))).used := by rw [fks_used]; exact hd
 obtain ⟨β', q1, q2⟩ := row_out f1 (w1 := w) rfl rfl tpr rfl hdu hdfx e (sz := sz + 1) (rows := rows) (cs := cells) (0, 0) (NF.zero _) (Nat.succ_pos _)
   (fun j row hj => by obtain ⟨_, _, _, _, h4⟩ := r3 j row hj; exact h4)
   (fun j row y p hj hy => by
     obtain ⟨x, hx, g2, g3, g4, g5⟩ := hv j row hj
     have hyl : y < sz + 1 := by
       obtain ⟨_, _, _, _, h4⟩ := r3 j row hj
       have := (List.getElem?_eq_some_iff.1 hy).1
       omega
     have e1 : (j * (sz + 1) + y) / (sz + 1) = j := by rw [Nat.mul_comm, Nat.mul_add_div (Nat.succ_pos _), Nat.div_eq_of_lt hyl, Nat.add_zero]
     have e2 : (j * (sz + 1) + y) % (sz + 1) = y := by rw [Nat.mul_comm, Nat.mul_add_mod]; exact Nat.mod_eq_of_lt hyl
     have e3 : cells.getD (j * (sz + 1) + y) undef = (a.eval x).cells.getD y undef := by
       rw [Array.getD_eq_getD_getElem?, hget, e1, e2, g2, Option.bind_some, ← Array.getD_eq_getD_getElem?]
     rw [e3]
     obtain ⟨av, ha, hap⟩ := (toPVL_some g4).2 y p hy
     refine ⟨?_, (g5 y av ha).2⟩
     exact freezes_PRL h (l := keysOps s.geto parts.toList) (xs := cellsOf (s.geto x)) (us := fun y => (a.eval x).cells.getD y undef) (fun y av hy => (g5 y av hy).1) (fun k hk => by
       rw [cellsOf_keys] at hk
       have hxm := List.mem_of_getElem? hx
       obtain ⟨pr, hpr, rfl⟩ := List.mem_map.1 hxm
       exact keysOps_mem.2 ⟨pr, hpr, hk⟩) g4 f3 f4 y p hy)
   (cap := len) (by rw [r1]; omega) (by rw [hcs]; exact Nat.le_refl _) (by
     unfold maxLen
     have : len * 1 ≤ len * (sz + 1) := Nat.mul_le_mul_left _ (by omega)
     omega)
 refine ⟨_, _, _, _, β', hK, hrun, by rw [acts_append]; exact q1, ?_, ?_⟩
 · rw [show len = rows.length from by rw [r1]; omega]
   rw [show rows.length = len from by rw [r1]; omega] at q2 ⊢
   exact q2
 · intro k hk
   simp only [AV.keys, List.mem_singleton] at hk
   subst hk
   rw [acts_append]
   simp [St.acts, St.act, St.new]
theorem placesOf_spec : ∀ {fs : List Field} {pl : List (Nat × Nat)}, placesOf P fs = some pl → fs.mapM (fun f => (P.info? f.type).map fun i => (f.offset, i.size)) = some pl
 | [], pl, h => by simp only [placesOf, Option.some.injEq] at h; subst h; rfl
 | f :: fs, pl, h => by
   unfold placesOf at h
   split at h
   case h_2 => cases h
   rename_i n hn
   split at h
   case h_2 => cases h
   rename_i r hr
   cases h
   unfold szOf at hn
   rw [Option.map_eq_some_iff] at hn
   obtain ⟨i, hi, rfl⟩ := hn
   simp [List.mapM_cons, hi, placesOf_spec hr]
theorem fill_sound {a : Act} (h : Rl Γ s a.tmps w β) {place : Nat → Option (Nat × Nat)} : ∀ {parts : List (Nat × Operand)} {cells cells' : List AV} {vs : Array Value}, allParts s.blk s.geto parts = true → fillAV place s.geto cells parts = some cells' → vs.size = cells.length →
   (∀ (j : Nat) (av : AV), cells[j]? = some av → AR w (Av Γ.X β) β av (vs.getD j undef) ∧ ∀ k ∈ av.keys, k ∈ s.used) →
   ∃ vs', Instr.fill place vs (parts.map fun (i, x) => (i, a.eval x)) = some vs' ∧ vs'.size = cells'.length ∧ ∀ (j : Nat) (av : AV), cells'[j]? = some av → AR w (Av Γ.X β) β av (vs'.getD j undef) ∧ ∀ k ∈ av.keys, k ∈ s.used
 | [], cells, cells', vs, _, hf, hl, hc => by
   simp only [fillAV, Option.some.injEq] at hf
   subst hf
   exact ⟨vs, rfl, hl, hc⟩
 | (i, x) :: l, cells, cells', vs, ha, hf, hl, hc => by
   unfold fillAV at hf
   split at hf
   case h_2 => cases hf
   rename_i off n hp
   split at hf
   case h_2 => cases hf
   rename_i hn
   split at hf
   case h_2 => cases hf
   rename_i c1 hsp
   have hn := Nat.eq_of_beq_eq_true hn
   subst hn
   simp only [allParts] at ha
   cases h1 : allOne s.blk (cellsOf (s.geto x)) with
   | false => rw [h1] at ha; cases ha
   | true =>
     rw [h1] at ha
     obtain ⟨xl, xc⟩ := cellsOf_spec h (geto_AR h x) (B := s.blk) (fun _ h => h) h1
     obtain ⟨q1, q2, q3⟩ := splice_spec hsp
     obtain ⟨s1, s2⟩ := Great.foldl_set off (a.eval x).cells.toList 0 vs
     have e : (a.eval x).cells.zipIdx.foldl (fun cs (x : Value × Nat) => cs.setIfInBounds (off + x.2) x.1) vs = ((a.eval x).cells.toList.zipIdx 0).foldl (fun cs (x : Value × Nat) => cs.setIfInBounds (off + x.2) x.1) vs := by
       rw [← Array.foldl_toList]
       congr 1
       simp
     rw [← e] at s1 s2
     obtain ⟨vs', g1, g2, g3⟩ := fill_sound h (vs := (a.eval x).cells.zipIdx.foldl (fun cs (x : Value × Nat) => cs.setIfInBounds (off + x.2) x.1) vs) (by simpa using ha) hf (by omega) (fun j av hj => by
       rw [q3 j] at hj
       rw [Array.getD_eq_getD_getElem?, s2 j]
       have hjl : j < vs.size := by
         rw [hl]
         split at hj
         · omega
         · exact (List.getElem?_eq_some_iff.1 hj).1
       simp only [Array.length_toList, xl, Nat.add_zero]
       split at hj
       · rename_i hr
         rw [if_pos ⟨hr.1, hr.2, hjl⟩]
         have := (xc _ av hj).1
         rw [Array.getD_eq_getD_getElem?] at this
         simp only [Array.getElem?_toList]
         refine ⟨this, fun k hk => geto_keys h x k ?_⟩
         rw [← cellsOf_keys]
         exact AV.mem_keysL.2 ⟨av, List.mem_of_getElem? hj, hk⟩
       · rename_i hr
         rw [if_neg (by omega), ← Array.getD_eq_getD_getElem?]
         exact hc j av hj)
     refine ⟨vs', ?_, g2, g3⟩
     simp only [List.map_cons, Instr.fill, hp, xl]
     rw [if_neg (by simp; omega)]
     exact g1
theorem build_sound {a : Act} (h : Rl Γ s a.tmps w β) {t : TypeId} {parts : Array (Nat × Operand)} (hK : opBuild P t parts.toList s.geto s.blk K) :
   Out Γ s a.tmps K ((Instr.build t (parts.map fun (i, x) => (i, a.eval x))).run P w) := by
 unfold opBuild at hK
 simp only [forceC_eq] at hK
 split at hK
 case h_2 => exact hK.elim
 rename_i z hz
 split at hK
 case h_2 => exact hK.elim
 rename_i hall
 obtain ⟨i, zv, hi, hzv, rfl, hone, hzr⟩ := zeroOf_spec hz
 have h0 : ∀ (j : Nat) (av : AV), (pures (zv.cells.toList.map PV.val))[j]? = some av → AR w (Av Γ.X β) β av (zv.cells.getD j undef) ∧ ∀ k ∈ av.keys, k ∈ s.used := fun j av hj => by
   simp only [pures, List.map_map, List.getElem?_map, Option.map_eq_some_iff, Array.getElem?_toList] at hj
   obtain ⟨v, hv, rfl⟩ := hj
   rw [Array.getD_eq_getD_getElem?, hv]
   exact ⟨.pure _ _ (.val _), by simp [AV.keys]⟩
 have hl0 : zv.cells.size = (pures (zv.cells.toList.map PV.val)).length := by simp [pures]
 have fin : ∀ {cells : List AV} {vs : Array Value}, vs.size = cells.length → (∀ (j : Nat) (av : AV), cells[j]? = some av → AR w (Av Γ.X β) β av (vs.getD j undef) ∧ ∀ k ∈ av.keys, k ∈ s.used) → K (.agg cells) [] →
     P.built t (parts.map fun (i, x) => (i, a.eval x)).toList = some vs → Out Γ s a.tmps K ((Instr.build t (parts.map fun (i, x) => (i, a.eval x))).run P w) := fun hvl hc hK hb => by
   refine Out.same h hK (run_build w t _ _ hb) (.agg _ _ hvl fun j p hj => (hc j p hj).1) fun k hk => ?_
   simp only [AV.keys] at hk
   obtain ⟨x, hx, hkx⟩ := AV.mem_keysL.1 hk
   obtain ⟨j, hj, rfl⟩ := List.getElem_of_mem hx
   exact (hc j _ (List.getElem?_eq_getElem hj)).2 k hkx
 split at hK
 · rename_i fs hu
   split at hK
   case h_2 => exact hK.elim
   rename_i places hpl
   split at hK
   case h_2 => exact hK.elim
   rename_i cells hf
   obtain ⟨vs', g1, g2, g3⟩ := fill_sound h hall hf hl0 h0
   refine fin g2 g3 hK ?_
   have hnth : (fun i => nth places i) = (places.toArray[·]?) := by funext i; simp [nth_eq]
   unfold Program.built
   simp only [hi, hu, hzv, placesOf_spec hpl, Array.toList_map]
   rw [← hnth]
   exact g1
 · rename_i n e hu
   split at hK
   case h_2 => exact hK.elim
   rename_i sz hsz
   split at hK
   case h_2 => exact hK.elim
   rename_i cells hf
   obtain ⟨vs', g1, g2, g3⟩ := fill_sound h hall hf hl0 h0
   refine fin g2 g3 hK ?_
   unfold szOf at hsz
   rw [Option.map_eq_some_iff] at hsz
   obtain ⟨ie, hie, rfl⟩ := hsz
   unfold Program.built
   simp only [hi, hu, hzv, hie, Array.toList_map]
   exact g1
 · exact hK.elim
theorem ovr_get {α : Type} {l src : List α} {i c : Nat} (hc : c ≤ src.length) (hi : i + c ≤ l.length) (x : Nat) : (ovr l i c src)[x]? = if i ≤ x ∧ x < i + c then src[x - i]? else l[x]? := by
 unfold ovr
 have e1 : (l.take i).length = i := by simp; omega
 have e2 : (src.take c).length = c := by simp; omega
 by_cases h1 : x < i
 · rw [if_neg (by omega), List.append_assoc, List.getElem?_append_left (by omega), List.getElem?_take, if_pos h1]
 · by_cases h2 : x < i + c
   · rw [if_pos (by omega), List.append_assoc, List.getElem?_append_right (by omega), e1, List.getElem?_append_left (by omega), List.getElem?_take, if_pos (by omega)]
   · rw [if_neg (by omega), List.append_assoc, List.getElem?_append_right (by omega), e1, List.getElem?_append_right (by omega), e2, List.getElem?_drop]
     congr 1
     omega
theorem ovr_length {α : Type} {l src : List α} {i c : Nat} (hc : c ≤ src.length) (hi : i + c ≤ l.length) : (ovr l i c src).length = l.length := by
 simp [ovr]; omega
theorem copy_sound (h : Rl Γ s tm w β) {t tx ty : TypeId} {x y : AV} {ux uy : Value} (hx : AR w (Av Γ.X β) β x ux) (hy : AR w (Av Γ.X β) β y uy) (hK : opCopy P t x y s.blk K) :
   Out Γ s tm K ((Builtin.copy_ #[t, tx] ty #[ux, uy]).run P w) := by
 unfold opCopy at hK
 split at hK
 case h_2 => exact hK.elim
 rename_i e ht
 split at hK
 case h_2 => exact hK.elim
 rename_i sz' hs
 split at hK
 case h_2 => exact hK.elim
 rename_i src hsrc
 split at hK
 case h_2 => exact hK.elim
 rename_i k i n
 split at hK
 case h_2 => exact hK.elim
 rename_i sz rows hblk
 split at hK
 case h_2 => exact hK.elim
 rename_i hsz
 have hsz := Nat.eq_of_beq_eq_true hsz
 subst hsz
 obtain ⟨g1, g2, g3⟩ := srcRows_spec (P := P) h hy hsrc
 obtain ⟨cs, c1, c2, c3⟩ := g3 (min src.length n) (Nat.min_le_left _ _)
 obtain ⟨bi, hβ, hb⟩ := h.live hblk
 have hb' := hb
 obtain ⟨b1, b2, b2', b3, b4⟩ := hb'
 have same : n = 0 → i ≤ rows.length → ∀ (a : Option Addr) (cap : Nat), Out Γ s tm K ((Builtin.copy_ #[t, tx] ty #[.slice a n cap, uy]).run P w) := fun hn hil a cap => by
   subst hn
   have hm0 : min src.length 0 = 0 := Nat.min_zero _
   rw [hm0] at hK c1 c2
   have hcs : cs = #[] := Array.eq_empty_of_size_eq_zero (by omega)
   subst hcs
   refine ⟨_, _, .int .i64 ((0 : Nat) : Int), w, β, hK, ?_, h.congr (fun _ => rfl) (fun k' => ?_) rfl, .pure _ _ (.val _), by simp [AV.keys]⟩
   · cases a <;> simp [Builtin.copy_, run_underlying ht, g1, run_sizeOf hs, c1 w rfl, storeCells, goInt]
   · show (s.set k _).blk k' = _
     rw [St.blk_set]
     by_cases e : k = k'
     · subst e
       rw [if_pos rfl, hblk]
       simp [ovr]
     · rw [if_neg e]
 cases hx with
 | lslDead _ _ _ _ hd => rw [hβ] at hd; cases hd
 | lslV _ _ bi' a hbb hil =>
   rw [hβ] at hbb; cases hbb
   exact same rfl (by omega) a 0
 | lsl _ _ _ bi' cap hbb hv hn hcc hil hm =>
   rw [hβ] at hbb; cases hbb
   rcases b4 with ⟨b4, _⟩ | ⟨_, cur, et, fz, b5, b6, b7, b8, b9⟩
   · rw [hv] at b4; cases b4
   have hcc' : (i + n) * (sz' + 1) ≤ cur.size := by
     rw [← b7, ← b1]
     exact Nat.le_trans (Nat.mul_le_mul_right _ (by omega)) hcc
   have hmn : min src.length n ≤ n := Nat.min_le_right _ _
   have hbnd : i * (sz' + 1) + min src.length n * (sz' + 1) ≤ cur.size := by
     rw [← Nat.add_mul]
     exact Nat.le_trans (Nat.mul_le_mul_right _ (by omega)) hcc'
   have hcl : cs.toList.length = min src.length n * (sz' + 1) := by simp [c2]
   have hone : ∀ u ∈ cs.toList, u.oneCell' = true := by
     have := cells_of_rows (rows := src.take (min src.length n)) (sz := sz' + 1) (cs := cs) (w := w) (A := Av Γ.X β) (fun x row hx => g2 x row (by
       rw [List.getElem?_take] at hx
       split at hx
       · exact hx
       · cases hx)) (by rw [c2, List.length_take]; congr 1; omega) (fun x row y p hx hlt hy => c3 x row y p (by
       rw [List.getElem?_take] at hx
       split at hx
       · exact hx
       · cases hx) (by simp at hlt; omega) hy)
     exact this
   obtain ⟨w', cs', r1, r2, r3, r4, r5, r6, r7, r8, r9⟩ := run_stores P bi.b et fz cs.toList (i * (sz' + 1)) 0 cur w b5 b6 (by omega) hone
   refine ⟨_, _, .int .i64 (min src.length n : Nat), w', β, hK, ?_, ?_, .pure _ _ (.val _), by simp [AV.keys]⟩
   · rw [← b1] at r1
     have hmin : Nat.min src.length n = min src.length n := rfl
     simp [Builtin.copy_, run_underlying ht, g1, run_sizeOf hs, goInt, hmin, c1 w rfl, r1]
   · show Rl Γ (s.set k _) tm w' β
     refine h.upd hβ hv r5 (fun b hbne => r6 b hbne) r7 r8 r9 (by simp [Blk.keys]) fun had => ⟨b1, b2, by rw [ovr_length (Nat.min_le_left _ _) (by omega)]; exact b2', fun x row hx => ?_, .inr ⟨hv, cs', et, fz, r2, fun j hj => b6 j (by omega), b7.trans r3.symm, by rw [ovr_length (Nat.min_le_left _ _) (by omega)]; exact b8, fun x row y p hx hy => ?_⟩⟩
     · rw [ovr_get (Nat.min_le_left _ _) (by omega)] at hx
       split at hx
       · exact g2 _ row hx
       · exact b3 x row hx
     · rw [ovr_get (Nat.min_le_left _ _) (by omega)] at hx
       have hrl : row.length = sz' + 1 := by
         split at hx
         · exact g2 _ row hx
         · exact b3 x row hx
       have hyl : y < sz' + 1 := by have := (List.getElem?_eq_some_iff.1 hy).1; omega
       rw [r4, hcl]
       split at hx
       · rename_i hr
         have hm1 : x * (sz' + 1) + (sz' + 1) ≤ (i + min src.length n) * (sz' + 1) := by rw [← Nat.succ_mul]; exact Nat.mul_le_mul_right _ (by omega)
         have hm2 : i * (sz' + 1) ≤ x * (sz' + 1) := Nat.mul_le_mul_right _ hr.1
         rw [Nat.add_mul] at hm1
         rw [if_pos (by omega), getD_toList]
         have e1 : x * (sz' + 1) + y - (i * (sz' + 1) + 0) = (x - i) * (sz' + 1) + y := by rw [Nat.sub_mul]; omega
         rw [e1]
         have := c3 (x - i) row y p hx (by omega) hy
         exact ⟨this.1.mono had, this.2⟩
       · rename_i hr
         have hnot : ¬ (i * (sz' + 1) + 0 ≤ x * (sz' + 1) + y ∧ x * (sz' + 1) + y < i * (sz' + 1) + 0 + min src.length n * (sz' + 1)) := by
           rintro ⟨p1, p2⟩
           rcases Nat.lt_or_ge x i with hlt | hge
           · have : x * (sz' + 1) + (sz' + 1) ≤ i * (sz' + 1) := by rw [← Nat.succ_mul]; exact Nat.mul_le_mul_right _ hlt
             omega
           · have hge2 : i + min src.length n ≤ x := by omega
             have : (i + min src.length n) * (sz' + 1) ≤ x * (sz' + 1) := Nat.mul_le_mul_right _ hge2
             rw [Nat.add_mul] at this
             omega
         rw [if_neg hnot]
         exact ⟨(b9 x row y p hx hy).1.mono had, (b9 x row y p hx hy).2⟩
end
end Go.Avc
/- Conversions, greatest and least: sound; the further operations all together. Conditions: none. -/
namespace Go.Avc
open Go.RowKit
section
variable {Γ : Ctx} {s : St} {tm : Array Value} {w : World} {β : BM} {P : Program} {K : Kont}
theorem convert_sound (h : Rl Γ s tm w β) {src dst : TypeId} {x : AV} {u : Value} {d : Nat} (hx : AR w (Av Γ.X β) β x u) (hK : opConvert P src dst x s.blk d s.used Γ.fx K) :
   Out Γ s tm K ((convert src dst u).run P w) := by
 unfold opConvert at hK
 split at hK
 · rename_i k0 k hs hd
   split at hK
   · rename_i k1 n
     obtain ⟨r, rfl, hK⟩ := hK
     rw [hx.val_inv]
     have hk : P.intKind dst = k := by simp [Program.intKind, hd]
     refine Out.same h hK ?_ (.pure _ _ (.val _)) (by simp [AV.keys])
     have := run_convert_int (P := P) w src dst k1 n (by rw [hs]; rfl) (by rw [hk]; exact hd)
     rw [hk] at this
     exact this
   · exact hK.elim
 · rename_i e hs hd
   split at hK
   case h_2 => exact hK.elim
   rename_i he
   split at hK
   case h_2 => exact hK.elim
   rename_i hns
   split at hK
   case h_2 => exact hK.elim
   rename_i rows hrows
   obtain ⟨bs, rfl, hK⟩ := hK
   obtain ⟨g1, g2, g3⟩ := srcRows_spec (P := P) h hx hrows
   obtain ⟨cs, c1, c2, c3⟩ := g3 _ (Nat.le_refl _)
   have hlen : (byteRows bs).length = bs.length := by simp [byteRows]
   have hu : ∃ a c, u = .slice a bs.length c := by
     unfold srcRows at hrows
     split at hrows
     · cases hx with
       | pure _ _ hp =>
         split at hrows
         case h_2 => cases hrows
         injection hrows with hrows
         cases hp with
         | slnil => exact ⟨none, 0, by rw [← hlen, ← hrows]; rfl⟩
         | sl _ _ a cap => exact ⟨some a, cap, by rw [← hlen, ← hrows]⟩
     · split at hrows
       · split at hrows
         case h_2 => cases hrows
         injection hrows with hrows
         rename_i k i n _ z rows0 hblk _ _
         obtain ⟨bi, hβ, hb⟩ := h.live hblk
         cases hx with
         | lslDead _ _ _ _ hd => rw [hβ] at hd; cases hd
         | lslV _ _ bi' a hbb hil => exact ⟨a, 0, by rw [← hlen, ← hrows]; simp⟩
         | lsl _ _ _ bi' cap hbb hv hn hcc hil hm =>
           rw [hβ] at hbb; cases hbb
           have hl := hb.2.2.1
           exact ⟨_, cap, by rw [← hlen, ← hrows]; congr 1; simp; omega⟩
       · cases hrows
     · rw [hx.val_inv]
       injection hrows with hrows
       exact ⟨none, 0, by rw [← hlen, ← hrows]; rfl⟩
     · cases hns
     · cases hrows
   obtain ⟨a, c, rfl⟩ := hu
   rw [hlen] at c1 c2
   have hcell : ∀ j (hj : j < bs.length), cs.getD j undef = .int .u8 (bs[j].toNat : Int) := fun j hj => by
     have := (c3 j _ 0 _ (byteRows_get hj) (by omega) rfl).1
     rw [Nat.mul_one, Nat.add_zero] at this
     exact this.val_inv
   refine Out.same h hK (u := .string ⟨bs.toArray⟩) ?_ (.pure _ _ (.val _)) (by simp [AV.keys])
   have hcs : cs = ((bs.map (fun b => (b.toNat : Int))).map (Value.int .u8)).toArray := by
     apply Array.ext
     · simp [c2]
     · intro j h1 h2
       have h3 : j < bs.length := by simpa using h2
       have := hcell j h3
       rw [Array.getD_eq_getD_getElem?, Array.getElem?_eq_getElem h1] at this
       simp only [Option.getD_some] at this
       rw [this]
       simp
   have hc1 := c1 w rfl
   cases a with
   | none =>
     have h0 : bs.length = 0 := by
       simp only [Builtin.firstCells, Sem.run_pure] at hc1
       injection hc1 with hc1
       rw [← hc1] at c2
       simpa using c2.symm
     have hb0 : bs = [] := List.length_eq_zero_iff.1 h0
     subst hb0
     exact run_convert_bytes_nil (P := P) (w := w) src e hs he _ _ dst hd
   | some a =>
     simp only [Builtin.firstCells, Nat.mul_one] at hc1
     rw [run_convert_bytes_string w src dst e (some a) bs.length c hs he hd]
     rw [hcs] at hc1
     rw [run_bytesToString w a bs.length c _ hc1, foldl_push_byteCells]
     have he0 : ByteArray.empty.data = #[] := rfl
     rw [he0]
     simp
 · rename_i e hs hd
   split at hK
   case h_2 => exact hK.elim
   rename_i he
   split at hK
   case h_2 => exact hK.elim
   rename_i hsz
   split at hK
   case h_2 => exact hK.elim
   rename_i str
   obtain ⟨hdu, hdfx, hlim, hK⟩ := guardNew_spec hK
   rw [hx.val_inv]
   have hrun := run_bytes_of_string (P := P) w src dst e str hs hd he
   have hsd : str.size = str.data.size := rfl
   have hge := grownCap_ge w str.size 0 e
   have hle := grownCap_le_maxLen w str.size 0 e (by unfold maxLen; omega)
   have hbl : (byteRows str.data.toList).length = str.size := by simp only [byteRows, List.length_map, Array.length_toList]; rfl
   have hbs : (bytesRow str (grownCap w str.size 0 e)).size = grownCap w str.size 0 e := by simp only [bytesRow, Array.size_append, Array.size_map, Array.size_replicate]; omega
   obtain ⟨β', q1, q2⟩ := row_out h (w1 := w.drew) rfl rfl tpr rfl hdu hdfx e (sz := 1) (rows := byteRows str.data.toList) (cs := bytesRow str (grownCap w str.size 0 e))
     ((bytesRow str (grownCap w str.size 0 e)).size, (bytesRow str (grownCap w str.size 0 e)).size + 1) (fun j hj h => by simp at h; omega) (by omega)
     (fun j row hj => by
       simp only [byteRows, List.getElem?_map, Option.map_eq_some_iff] at hj
       obtain ⟨b, _, rfl⟩ := hj
       rfl)
     (fun j row y p hj hy => by
       have hjl : j < str.data.size := by have := (List.getElem?_eq_some_iff.1 hj).1; simpa [byteRows] using this
       rw [byteRows_get (by simpa using hjl)] at hj
       injection hj with hj
       subst hj
       cases y with
       | succ y => simp at hy
       | zero =>
         simp only [List.getElem?_cons_zero, Option.some.injEq] at hy
         subst hy
         rw [Nat.mul_one, Nat.add_zero, Array.getD_eq_getD_getElem?, bytesRow_at str _ j hjl]
         exact ⟨.val _, rfl⟩)
     (cap := grownCap w str.size 0 e) (by omega) (by rw [hbs]; omega) hle
   rw [hbl] at q2
   exact ⟨_, _, _, _, β', hK, hrun, q1, q2, by simp [AV.keys, St.acts, St.act, St.new]⟩
 · exact hK.elim
theorem more1_ok0 {md : Bool} : MoreOK0 (more1 md Γ.P Γ.fx) Γ := by
 intro F hF n s a w β o K hK h ho next Q hk
 have hd : a.defers = a.defers := rfl
 have fin : ∀ (S : Sem Value), (execOp a.eval o) = (do pure (.value (← S))) → (∀ c, o.op ≠ .defer c) → Out Γ s a.tmps K (S.run Γ.P w) → o.wpIn F n Γ.P a w next Q := by
   rintro S he hnd ⟨v, acts, u, w', β', hKv, hr, hR, hv, hkv⟩
   refine wpIn_of_run hF hnd (v := u) (w' := w') ?_ (hk v acts _ w' hKv (putD_R hd hR ho hv hkv))
   rw [he, Sem.run_bind, hr, Result.andThen_ok]
   rfl
 have oar : ∀ x : Option Operand, optAR Γ w β (x.map s.geto) (x.map a.eval) := fun x => by
   cases x with
   | none => trivial
   | some x => exact geto_AR h x
 unfold more1 at hK
 split at hK
 · rename_i t x c hx
   split at hK
   · obtain ⟨h1, h2, hK⟩ := guardNew_spec hK
     exact fin _ (by simp only [execOp, hx]) (by rw [hx]; intro c; simp) (make_sound h h1 h2 (geto_AR h x) (geto_AR h c) hK)
   · exact hK.elim
 · rename_i t len parts hx
   split at hK
   · obtain ⟨h1, h2, hK⟩ := guardNew_spec hK
     exact fin _ (by simp only [execOp, hx]) (by rw [hx]; intro c; simp) (buildSlice_sound h h1 h2 (opBuildSliceA_old hK))
   · exact hK.elim
 · rename_i t parts hx
   exact fin _ (by simp only [execOp, hx]) (by rw [hx]; intro c; simp) (build_sound h hK)
 · rename_i t x lo hi mx hx
   exact fin _ (by simp only [execOp, hx]) (by rw [hx]; intro c; simp) (slice_sound h (geto_AR h x) (geto_keys h x) (oar lo) (oar hi) (oar mx) hK)
 · rename_i src dst x hx
   split at hK
   · exact fin _ (by simp only [execOp, hx]) (by rw [hx]; intro c; simp) (convert_sound h (geto_AR h x) hK)
   · exact hK.elim
 · rename_i c hx
   split at hK
   · rename_i hc
     split at hK
     · rename_i x y t tx hargs hts
       split at hK
       case h_2 => exact hK.elim
       rename_i hkind
       split at hK
       · obtain ⟨h1, h2, hK⟩ := guardNew_spec hK
         have e1 : c.args = #[x, y] := Array.toList_inj.1 (by simpa using hargs)
         have e2 : c.argTypes = #[t, tx] := Array.toList_inj.1 (by simpa using hts)
         refine fin (Builtin.append_ #[t, tx] o.type #[a.eval x, a.eval y]) ?_ (by rw [hx]; intro c; simp) (append_sound h hkind h1 h2 (geto_AR h x) (geto_AR h y) hK)
         simp only [execOp, hx, resolve, hc, e1, e2, invoke, builtin]
         simp
       · exact hK.elim
     · exact hK.elim
   · rename_i hc
     split at hK
     · rename_i x y t tx hargs hts
       have e1 : c.args = #[x, y] := Array.toList_inj.1 (by simpa using hargs)
       have e2 : c.argTypes = #[t, tx] := Array.toList_inj.1 (by simpa using hts)
       refine fin (Builtin.copy_ #[t, tx] o.type #[a.eval x, a.eval y]) ?_ (by rw [hx]; intro c; simp) (copy_sound h (geto_AR h x) (geto_AR h y) hK)
       simp only [execOp, hx, resolve, hc, e1, e2, invoke, builtin]
       simp
     · exact hK.elim
   · rename_i hc
     split at hK
     · rename_i x y hargs
       split at hK
       · rename_i k n' k' m hxx hyy
         split at hK
         case h_2 => exact hK.elim
         rename_i hkk
         have e0 := kEq_spec hkk
         subst e0
         have e1 : c.args = #[x, y] := Array.toList_inj.1 (by simpa using hargs)
         have ex := geto_AR h x
         rw [hxx] at ex
         have ex := ex.val_inv
         have ey := geto_AR h y
         rw [hyy] at ey
         have ey := ey.val_inv
         refine fin (Builtin.max_ c.argTypes o.type #[a.eval x, a.eval y]) ?_ (by rw [hx]; intro c; simp) (Out.same h hK (u := .int k (max n' m)) ?_ (.pure _ _ (.val _)) (by simp [AV.keys]))
         · simp only [execOp, hx, resolve, hc, e1, invoke, builtin]
           simp
         · rw [ex, ey]
           simp [Builtin.max_, Builtin.max2]
           omega
       · exact hK.elim
     · exact hK.elim
   · rename_i hc
     split at hK
     · rename_i x y hargs
       split at hK
       · rename_i k n' k' m hxx hyy
         split at hK
         case h_2 => exact hK.elim
         rename_i hkk
         have e0 := kEq_spec hkk
         subst e0
         have e1 : c.args = #[x, y] := Array.toList_inj.1 (by simpa using hargs)
         have ex := geto_AR h x
         rw [hxx] at ex
         have ex := ex.val_inv
         have ey := geto_AR h y
         rw [hyy] at ey
         have ey := ey.val_inv
         refine fin (Builtin.min_ c.argTypes o.type #[a.eval x, a.eval y]) ?_ (by rw [hx]; intro c; simp) (Out.same h hK (u := .int k (min n' m)) ?_ (.pure _ _ (.val _)) (by simp [AV.keys]))
         · simp only [execOp, hx, resolve, hc, e1, invoke, builtin]
           simp
         · rw [ex, ey]
           simp [Builtin.min_, Builtin.min2]
           omega
       · exact hK.elim
     · exact hK.elim
   · exact hK.elim
 · exact hK.elim
end
end Go.Avc
/- What an operation yields is one value and one way of turning the blocks, and it looks at its operands alone. Conditions: none. -/
namespace Go.Avc
open Go.RowKit
def Det (f g : Kont → Prop) : Prop := ∀ K : Kont, f K → ∃ v acts, K v acts ∧ g (fun v' a' => v' = v ∧ a' = acts)
section
variable {P : Program} {t : TypeId} {blk blk' : Nat → Option Blk}
theorem getCells_det {cells : List AV} {j : Nat} : Det (getCells P t cells j) (getCells P t cells j) := by
 intro K h
 unfold getCells at h ⊢
 simp only [forceC_eq] at h ⊢
 repeat' split at h
 all_goals first | exact h.elim | exact ⟨_, _, h, rfl, rfl⟩ | (simp only [*]; exact ⟨_, _, h, rfl, rfl⟩)
theorem allOne_frame : ∀ {l : List AV}, (∀ k ∈ AV.keysL l, blk' k = blk k) → allOne blk' l = allOne blk l
 | [], _ => rfl
 | a :: l, h => by
   have h1 : a.one blk' = a.one blk := by
     cases a with
     | loc k i j => simp only [AV.one]; rw [h k (by simp [AV.keysL, AV.keys])]
     | lsl k i n => simp only [AV.one]; rw [h k (by simp [AV.keysL, AV.keys])]
     | mp k => simp only [AV.one]; try rw [h k (by simp [AV.keysL, AV.keys])]
     | _ => rfl
   simp only [allOne, h1]
   rw [allOne_frame fun k hk => h k (by simp only [AV.keysL, List.mem_append]; exact .inr hk)]
mutual
theorem toPV_frame : ∀ {x : AV}, (∀ k ∈ x.keys, blk' k = blk k) → toPV blk' x = toPV blk x
 | .junk, _ => rfl
 | .pure _, _ => rfl
 | .gh _ _, _ => rfl
 | .mp _, _ => rfl
 | .loc k i j, h => by cases i <;> simp only [toPV]; rw [h k (by simp [AV.keys])]
 | .lsl k i n, h => by simp only [toPV]; rw [h k (by simp [AV.keys])]
 | .fn f cs, h => by simp only [toPV]; rw [toPVL_frame (l := cs) fun k hk => h k (by simpa [AV.keys] using hk)]
 | .agg cs, h => by simp only [toPV]; rw [toPVL_frame (l := cs) fun k hk => h k (by simpa [AV.keys] using hk)]
 | .tup cs, h => by simp only [toPV]; rw [toPVL_frame (l := cs) fun k hk => h k (by simpa [AV.keys] using hk)]
theorem toPVL_frame : ∀ {l : List AV}, (∀ k ∈ AV.keysL l, blk' k = blk k) → toPVL blk' l = toPVL blk l
 | [], _ => rfl
 | a :: l, h => by
   simp only [toPVL]
   rw [toPV_frame (x := a) fun k hk => h k (by simp only [AV.keysL, List.mem_append]; exact .inl hk), toPVL_frame (l := l) fun k hk => h k (by simp only [AV.keysL, List.mem_append]; exact .inr hk)]
end
theorem srcRows_frame {x : AV} {sz : Nat} (h : ∀ k ∈ x.keys, blk' k = blk k) : srcRows x blk' sz = srcRows x blk sz := by
 unfold srcRows
 split
 · rfl
 · rename_i k i n
   rw [h k (by simp [AV.keys])]
 all_goals rfl
theorem opLoad_det {x : AV} (hb : ∀ k ∈ x.keys, blk' k = blk k) : Det (opLoad P t x blk) (opLoad P t x blk') := by
 intro K h
 unfold opLoad at h ⊢
 split at h
 · rename_i k i j
   rw [hb k (by simp [AV.keys])]
   split at h
   · rename_i hk
     try simp only
     split at h
     · exact getCells_det K h
     · exact h.elim
   · rename_i hk
     try simp only
     split at h
     · rename_i ha
       try simp only
       split at h
       · obtain ⟨row, h1, h2⟩ := h
         obtain ⟨v, acts, h3, h4⟩ := getCells_det K h2
         exact ⟨v, acts, h3, row, h1, h4⟩
       rcases h with ⟨row, h1, h2, h3, h4⟩ | ⟨h1, h2, h3, h4⟩
       · exact ⟨_, _, h4, .inl ⟨row, h1, h2, h3, rfl, rfl⟩⟩
       · exact ⟨_, _, h4, .inr ⟨h1, h2, h3, rfl, rfl⟩⟩
     · rename_i ha
       try simp only
       obtain ⟨row, p, h1, h2, h3⟩ := h
       exact ⟨_, _, h3, row, p, h1, h2, rfl, rfl⟩
     · exact h.elim
   · exact h.elim
 · split at h
   · rcases h with ⟨h1, h2, h⟩ | h
     · exact ⟨_, _, h, .inl ⟨h1, h2, rfl, rfl⟩⟩
     · obtain ⟨v, acts, h1, h2⟩ := getCells_det K h
       exact ⟨v, acts, h1, .inr h2⟩
   · exact getCells_det K h
 · split at h
   · obtain ⟨h1, h⟩ := h
     exact ⟨_, _, h, h1, rfl, rfl⟩
   · exact h.elim
 · exact h.elim
theorem opBox_det {x : AV} {d : Nat} (hb : ∀ k ∈ x.keys, blk' k = blk k) : Det (opBox P t x d blk) (opBox P t x d blk') := by
 intro K h
 unfold opBox at h ⊢
 simp only [forceC_eq] at h ⊢
 rw [allOne_frame (blk := blk) fun k hk => hb k (by rwa [cellsOf_keys] at hk)]
 repeat' split at h
 all_goals first | exact h.elim | exact ⟨_, _, h, rfl, rfl⟩ | (simp only [*]; exact ⟨_, _, h, rfl, rfl⟩)
theorem opAlloc_det {d : Nat} : Det (opAlloc P t d) (opAlloc P t d) := by
 intro K h
 unfold opAlloc at h ⊢
 simp only [forceC_eq] at h ⊢
 repeat' split at h
 all_goals first | exact h.elim | exact ⟨_, _, h, rfl, rfl⟩ | (simp only [*]; exact ⟨_, _, h, rfl, rfl⟩)
theorem opStore_det {md : Bool} {x v : AV} {fx : List Nat} (hb : ∀ k ∈ x.keys, blk' k = blk k) (hv : ∀ k ∈ v.keys, blk' k = blk k) : Det (opStore md P t x v blk fx) (opStore md P t x v blk' fx) := by
 intro K h
 unfold opStore at h ⊢
 simp only [forceC_eq] at h ⊢
 rw [allOne_frame (blk := blk) fun k hk => hv k (by rwa [cellsOf_keys] at hk), toPVL_frame (blk := blk) fun k hk => hv k (by rwa [cellsOf_keys] at hk)]
 split at h
 · rename_i k i j
   rw [hb k (by simp [AV.keys])]
   split at h
   · exact h.elim
   · rename_i h1
     try simp only
     obtain ⟨h2, h⟩ := h
     split at h
     · rename_i hk
       try simp only
       split at h
       · split at h
         · rename_i hs
           try simp only
           exact ⟨_, _, h, h2, rfl, rfl⟩
         · exact h.elim
       · exact h.elim
     · rename_i hk
       try simp only
       split at h
       · rename_i hs
         try simp only
         split at h
         · obtain ⟨a1, a2, a3, a4, rows', a5, a6⟩ := h
           exact ⟨_, _, a6, h2, a1, a2, a3, a4, rows', a5, rfl, rfl⟩
         rcases h with ⟨a1, a2, a3, a4, a5, a6⟩ | ⟨a1, a2, a3, a4, a5, a6, a7⟩
         · exact ⟨_, _, a6, h2, .inl ⟨a1, a2, a3, a4, a5, rfl, rfl⟩⟩
         · exact ⟨_, _, a7, h2, .inr ⟨a1, a2, a3, a4, a5, a6, rfl, rfl⟩⟩
       · exact h.elim
     · exact h.elim
 · exact h.elim
theorem opBoxA_det {x : AV} {d : Nat} (hb : ∀ k ∈ x.keys, blk' k = blk k) : Det (opBoxA P t x d blk) (opBoxA P t x d blk') := by
 intro K h
 unfold opBoxA at h ⊢
 split at h
 · obtain ⟨h1, rows, h2, h⟩ := h
   exact ⟨_, _, h, h1, rows, h2, rfl, rfl⟩
 · exact opBox_det hb K h
theorem opStoreA_det {md : Bool} {x v : AV} {fx : List Nat} (hb : ∀ k ∈ x.keys, blk' k = blk k) (hv : ∀ k ∈ v.keys, blk' k = blk k) : Det (opStoreA md P t x v blk fx) (opStoreA md P t x v blk' fx) := by
 intro K h
 unfold opStoreA at h ⊢
 split at h
 · split at h
   · rename_i k i j
     simp only
     rw [hb k (by simp [AV.keys])]
     split at h
     · rename_i hk
       rcases h with ⟨a1, a2, a3, a4, a5, h⟩ | ⟨a1, a2, a3, a4, a5, a6, rows', a7, h⟩
       · exact ⟨_, _, h, .inl ⟨a1, a2, a3, a4, a5, rfl, rfl⟩⟩
       · exact ⟨_, _, h, .inr ⟨a1, a2, a3, a4, a5, a6, rows', a7, rfl, rfl⟩⟩
     · exact opStore_det hb hv K h
     · exact h.elim
   · exact h.elim
 · split at h
   · have e : byteAt x blk' = byteAt x blk := by
       cases x with
       | loc k i j => simp only [byteAt]; rw [hb k (by simp [AV.keys])]
       | _ => rfl
     simp only
     rw [e]
     split at h
     · obtain ⟨h1, h2, h3, rows', h4, h⟩ := h
       exact ⟨_, _, h, h1, h2, h3, rows', h4, rfl, rfl⟩
     · exact opStore_det hb hv K h
   · exact opStore_det hb hv K h
theorem opFieldAddr_det {x : AV} {f : Nat} (hb : ∀ k ∈ x.keys, blk' k = blk k) : Det (opFieldAddr P t x f blk) (opFieldAddr P t x f blk') := by
 intro K h
 unfold opFieldAddr at h ⊢
 split at h
 · exact h.elim
 rename_i fd hfd
 try simp only
 split at h
 · rename_i hs
   try simp only
   split at h
   · rename_i k i j
     rw [hb k (by simp [AV.keys])]
     split at h
     · rename_i hk
       try simp only
       exact ⟨_, _, h, rfl, rfl⟩
     · exact h.elim
   · exact ⟨_, _, h, rfl, rfl⟩
   · exact h.elim
 · exact h.elim
theorem opIndexAddr_det {x ix : AV} (hb : ∀ k ∈ x.keys, blk' k = blk k) : Det (opIndexAddr P t x ix blk) (opIndexAddr P t x ix blk') := by
 intro K h
 unfold opIndexAddr at h ⊢
 split at h
 · split at h
   · rename_i ht
     try simp only
     split at h
     · exact h.elim
     rename_i z hz
     try simp only
     split at h
     · rename_i k i m
       rw [hb k (by simp [AV.keys])]
       split at h
       · rename_i hk
         try simp only
         split at h
         · rename_i hs
           try simp only
           exact ⟨_, _, h.2.2, h.1, h.2.1, rfl, rfl⟩
         · exact h.elim
       · rename_i hk
         try simp only
         obtain ⟨a1, a2, a3, a4, a5⟩ := h
         exact ⟨_, _, a5, a1, a2, a3, a4, rfl, rfl⟩
       · exact h.elim
     · split at h
       · rename_i hs
         try simp only
         obtain ⟨h0, row, h1, h2⟩ := h
         exact ⟨_, _, h2, h0, row, h1, rfl, rfl⟩
       · exact h.elim
     · exact h.elim
   · rename_i ht
     try simp only
     split at h
     · exact h.elim
     rename_i z hz
     try simp only
     split at h
     · rename_i k i j
       rw [hb k (by simp [AV.keys])]
       split at h
       · rename_i hk
         try simp only
         obtain ⟨a1, a2, a3, a4, a5, a6⟩ := h
         exact ⟨_, _, a6, a1, a2, a3, a4, a5, rfl, rfl⟩
       · rename_i hk
         try simp only
         exact ⟨_, _, h.2.2, h.1, h.2.1, rfl, rfl⟩
       · exact h.elim
     · exact ⟨_, _, h.2.2, h.1, h.2.1, rfl, rfl⟩
     · split at h
       · obtain ⟨h0, row, h1, h2⟩ := h
         exact ⟨_, _, h2, h0, row, h1, rfl, rfl⟩
       · exact h.elim
     · obtain ⟨rows, hg, h0, row, h1, h2⟩ := h
       exact ⟨_, _, h2, rows, hg, h0, row, h1, rfl, rfl⟩
     · exact h.elim
   · exact h.elim
 · exact h.elim
theorem opField_det {x : AV} {f : Nat} : Det (opField P t x f) (opField P t x f) := by
 intro K h
 unfold opField at h ⊢
 split at h
 · exact h.elim
 rename_i fd hfd
 try simp only
 split at h
 · exact getCells_det K h
 · exact getCells_det K h
 · exact h.elim
theorem opIndex_det {x ix : AV} : Det (opIndex P t x ix) (opIndex P t x ix) := by
 intro K h
 unfold opIndex at h ⊢
 split at h
 · split at h
   · rename_i ht
     try simp only
     split at h
     · rename_i ha
       try simp only
       obtain ⟨a1, a2, a3, v, a4, a5, a6⟩ := h
       exact ⟨_, _, a6, a1, a2, a3, v, a4, a5, rfl, rfl⟩
     · exact h.elim
   · rename_i ht
     try simp only
     split at h
     · obtain ⟨a1, c, a2, a3⟩ := h
       exact ⟨_, _, a3, a1, c, a2, rfl, rfl⟩
     · exact h.elim
   · exact h.elim
 · exact h.elim
theorem intBin_det {op : BinOp} {k k' : IntKind} {a b : Int} {K : Value → Prop} (h : intBin op k k' a b K) : ∃ v, K v ∧ intBin op k k' a b (fun u => u = v) := by
 unfold intBin at h ⊢
 split at h
 · obtain ⟨h0, r, h1, h2⟩ := h
   exact ⟨_, h2, h0, r, h1, rfl⟩
 · obtain ⟨h0, r, h1, h2⟩ := h
   exact ⟨_, h2, h0, r, h1, rfl⟩
 · split at h
   · exact h.elim
   rename_i hk
   split at h
   all_goals first
     | exact h.elim
     | (obtain ⟨h0, r, h1, h2⟩ := h; exact ⟨_, h2, h0, r, h1, rfl⟩)
     | (obtain ⟨r, h1, h2⟩ := h; exact ⟨_, h2, r, h1, rfl⟩)
     | exact ⟨_, h, rfl⟩
theorem strBin_det {op : BinOp} {a b : ByteArray} {K : Value → Prop} (h : strBin op a b K) : ∃ v, K v ∧ strBin op a b (fun u => u = v) := by
 unfold strBin at h ⊢
 split at h
 all_goals first
   | exact h.elim
   | exact ⟨_, h.2, h.1, rfl⟩
   | exact ⟨_, h, rfl⟩
theorem opBin_det {op : BinOp} {x y : AV} (hn : isNil y = false) : Det (opBin P op t x y) (opBin P op t x y) := by
 intro K h
 unfold opBin at h ⊢
 split at h
 · obtain ⟨v, h1, h2⟩ := intBin_det h
   refine ⟨_, _, h1, ?_⟩
   have e : (fun u => u = v) = (fun v' : Value => AV.pure (.val v') = AV.pure (.val v) ∧ ([] : List BAct) = []) := by funext u; simp
   rw [← e]
   exact h2
 · obtain ⟨v, h1, h2⟩ := strBin_det h
   refine ⟨_, _, h1, ?_⟩
   have e : (fun u => u = v) = (fun v' : Value => AV.pure (.val v') = AV.pure (.val v) ∧ ([] : List BAct) = []) := by funext u; simp
   rw [← e]
   exact h2
 · split at h
   · rename_i ht
     try simp only
     split at h
     · exact ⟨_, _, h, rfl, rfl⟩
     · exact ⟨_, _, h, rfl, rfl⟩
     · exact h.elim
   · exact h.elim
 · rename_i h1 h2 h3
   split at h
   · rename_i h4
     rw [hn] at h4; cases h4
   · split at h
     · unfold ptrNil at h ⊢
       split at h
       · split at h
         · split at h
           · exact ⟨_, _, h, rfl, rfl⟩
           · exact ⟨_, _, h, rfl, rfl⟩
           · exact h.elim
         · split at h
           · exact ⟨_, _, h, rfl, rfl⟩
           · exact ⟨_, _, h, rfl, rfl⟩
           · exact h.elim
         · exact h.elim
       · exact h.elim
     split at h
     · rename_i hx hy
       split at h
       · obtain ⟨r, a1, a2, a3, a4⟩ := h
         exact ⟨_, _, a4, r, a1, a2, a3, rfl, rfl⟩
       · obtain ⟨r, a1, a2, a3, a4⟩ := h
         exact ⟨_, _, a4, r, a1, a2, a3, rfl, rfl⟩
       · exact h.elim
     · exact h.elim
end
end Go.Avc
/- What an operation yields is one value and one way of turning the blocks: the rest of the operations, and all together. Conditions: none. -/
namespace Go.Avc
open Go.RowKit
section
variable {P : Program} {t : TypeId} {blk blk' : Nat → Option Blk}
theorem opUn_det {op : UnOp} {x : AV} : Det (opUn op x) (opUn op x) := by
 intro K h
 unfold opUn at h ⊢
 split at h
 · split at h
   · exact ⟨_, _, h, rfl, rfl⟩
   · exact h.elim
 · split at h
   · obtain ⟨r, h1, h2⟩ := h
     exact ⟨_, _, h2, r, h1, rfl, rfl⟩
   · obtain ⟨r, h1, h2⟩ := h
     exact ⟨_, _, h2, r, h1, rfl, rfl⟩
   · exact h.elim
 · exact h.elim
theorem force_det {v : AV} : Det (force v) (force v) := by
 intro K h
 rw [force_eq] at h
 exact ⟨_, _, h, by rw [force_eq]; exact ⟨rfl, rfl⟩⟩
theorem opPick_det {c a b : AV} : Det (opPick c a b) (opPick c a b) := by
 intro K h
 unfold opPick at h ⊢
 split at h
 · rcases bsel_elim h with ⟨rfl, h⟩ | ⟨rfl, h⟩
   · exact force_det K h
   · exact force_det K h
 · exact h.elim
theorem opExtract_det {x : AV} {i : Nat} : Det (opExtract x i) (opExtract x i) := by
 intro K h
 unfold opExtract at h ⊢
 repeat' split at h
 all_goals first | exact h.elim | exact ⟨_, _, h, rfl, rfl⟩ | (simp only [*]; exact ⟨_, _, h, rfl, rfl⟩)
theorem opLen_det {x : AV} : Det (opLen P t x) (opLen P t x) := by
 intro K h
 unfold opLen at h ⊢
 repeat' split at h
 all_goals first | exact h.elim | exact ⟨_, _, h, rfl, rfl⟩ | (simp only [*]; exact ⟨_, _, h, rfl, rfl⟩)
theorem lenLiveB_frame {x : AV} (h : ∀ k ∈ x.keys, blk' k = blk k) : lenLiveB x blk' = lenLiveB x blk := by
 cases x with
 | lsl k i n => simp only [lenLiveB]; rw [h k (by simp [AV.keys])]
 | _ => rfl
theorem callVC_det {md : Bool} {f : FuncId} {args : List AV} {fx : List Nat} (hb : ∀ k ∈ AV.keysL args, blk' k = blk k) : Det (callVC md P f args blk fx) (callVC md P f args blk' fx) := by
 intro K h
 unfold callVC at h ⊢
 rw [toPVL_frame hb]
 split at h
 · exact h.elim
 rename_i ps hps
 obtain ⟨res, h1, h2⟩ := h
 split at h2
 · rename_i hs
   refine ⟨_, _, h2, res, h1, ?_⟩
   simp only [hs, and_self]
 · rename_i hs
   refine ⟨_, _, h2.2, res, h1, ?_⟩
   simp only [hs, and_self, and_true]
   exact h2.1
theorem guardNew_det {d : Nat} {used used' fx : List Nat} {f g : Kont → Prop} (hu : freshIn d used = true → freshIn d used' = true) (h : Det f g) : Det (fun K => guardNew d used fx (f K)) (fun K => guardNew d used' fx (g K)) := by
 intro K hK
 simp only [guardNew] at hK ⊢
 split at hK
 · rename_i h1
   split at hK
   · rename_i h2
     obtain ⟨v, acts, h3, h4⟩ := h K hK
     refine ⟨v, acts, h3, ?_⟩
     rw [hu h1]
     simp only [h2]
     exact h4
   · exact hK.elim
 · exact hK.elim
theorem opMake_det {n c : AV} {d : Nat} : Det (opMake P t n c d) (opMake P t n c d) := by
 intro K h
 unfold opMake at h ⊢
 repeat' split at h
 all_goals first | exact h.elim | (obtain ⟨a1, a2, a3, a4, h⟩ := h; exact ⟨_, _, h, a1, a2, a3, a4, rfl, rfl⟩)
theorem rowsOf_frame {get get' : Operand → AV} {sz : Nat} : ∀ {l : List (Nat × Operand)} {i : Nat}, (∀ x ∈ l.map (·.2), get' x = get x) → (∀ x ∈ l.map (·.2), ∀ k ∈ (get x).keys, blk' k = blk k) → rowsOf blk' sz get' i l = rowsOf blk sz get i l
 | [], _, _, _ => rfl
 | (j, x) :: l, i, h1, h2 => by
   have e := h1 x (by simp)
   have eb := h2 x (by simp)
   simp only [rowsOf, e]
   rw [allOne_frame (blk := blk) fun k hk => eb k (by rwa [cellsOf_keys] at hk), toPVL_frame (blk := blk) fun k hk => eb k (by rwa [cellsOf_keys] at hk),
     rowsOf_frame (l := l) (fun x hx => h1 x (by simp only [List.map_cons, List.mem_cons]; exact .inr hx)) (fun x hx => h2 x (by simp only [List.map_cons, List.mem_cons]; exact .inr hx))]
theorem keysOps_frame {get get' : Operand → AV} : ∀ {l : List (Nat × Operand)}, (∀ x ∈ l.map (·.2), get' x = get x) → keysOps get' l = keysOps get l
 | [], _ => rfl
 | (j, x) :: l, h => by
   simp only [keysOps, h x (by simp)]
   rw [keysOps_frame fun x hx => h x (by simp only [List.map_cons, List.mem_cons]; exact .inr hx)]
theorem fillAV_frame {get get' : Operand → AV} {place : Nat → Option (Nat × Nat)} : ∀ {l : List (Nat × Operand)} {cells : List AV}, (∀ x ∈ l.map (·.2), get' x = get x) → fillAV place get' cells l = fillAV place get cells l
 | [], _, _ => rfl
 | (j, x) :: l, cells, h => by
   have ih : ∀ cells, fillAV place get' cells l = fillAV place get cells l := fun cells => fillAV_frame fun x hx => h x (by simp only [List.map_cons, List.mem_cons]; exact .inr hx)
   simp only [fillAV, h x (by simp), ih]
theorem allParts_frame {get get' : Operand → AV} : ∀ {l : List (Nat × Operand)}, (∀ x ∈ l.map (·.2), get' x = get x) → (∀ x ∈ l.map (·.2), ∀ k ∈ (get x).keys, blk' k = blk k) → allParts blk' get' l = allParts blk get l
 | [], _, _ => rfl
 | (j, x) :: l, h1, h2 => by
   have e := h1 x (by simp)
   have eb := h2 x (by simp)
   simp only [allParts, e]
   rw [allOne_frame (blk := blk) fun k hk => eb k (by rwa [cellsOf_keys] at hk), allParts_frame (l := l) (fun x hx => h1 x (by simp only [List.map_cons, List.mem_cons]; exact .inr hx)) (fun x hx => h2 x (by simp only [List.map_cons, List.mem_cons]; exact .inr hx))]
theorem opBuildSlice_det {md : Bool} {len d : Nat} {parts : List (Nat × Operand)} {get get' : Operand → AV} {fx : List Nat} (h1 : ∀ x ∈ parts.map (·.2), get' x = get x) (h2 : ∀ x ∈ parts.map (·.2), ∀ k ∈ (get x).keys, blk' k = blk k) :
   Det (opBuildSlice md P t len parts get blk fx d) (opBuildSlice md P t len parts get' blk' fx d) := by
 intro K h
 unfold opBuildSlice at h ⊢
 rw [keysOps_frame h1]
 split at h
 case h_2 => exact h.elim
 split at h
 case h_2 => exact h.elim
 split at h
 case h_2 => exact h.elim
 split at h
 case h_2 => exact h.elim
 try simp only
 rw [rowsOf_frame h1 h2]
 repeat' split at h
 all_goals first | exact h.elim | exact ⟨_, _, h.2, h.1, rfl, rfl⟩
theorem aggsOf_frame {get get' : Operand → AV} : ∀ {parts : List (Nat × Operand)} {i : Nat}, (∀ x ∈ parts.map (·.2), get' x = get x) → aggsOf get' i parts = aggsOf get i parts
 | [], i, _ => rfl
 | (j, x) :: l, i, h => by
   have h1 := h x (by simp)
   have h2 := aggsOf_frame (get := get) (get' := get') (parts := l) (i := i + 1) fun y hy => h y (by simp only [List.map_cons, List.mem_cons]; exact .inr hy)
   simp only [aggsOf, h1, h2]
theorem opBuildSliceA_det {md : Bool} {len d : Nat} {parts : List (Nat × Operand)} {get get' : Operand → AV} {fx : List Nat} (h1 : ∀ x ∈ parts.map (·.2), get' x = get x) (h2 : ∀ x ∈ parts.map (·.2), ∀ k ∈ (get x).keys, blk' k = blk k) :
   Det (opBuildSliceA md P t len parts get blk fx d) (opBuildSliceA md P t len parts get' blk' fx d) := by
 intro K h
 have old := opBuildSlice_det (P := P) (t := t) (md := md) (len := len) (d := d) (fx := fx) h1 h2 K
 unfold opBuildSliceA at h ⊢
 rw [aggsOf_frame h1]
 split at h
 case h_2 => exact h.elim
 split at h
 case h_2 => exact old h
 split at h
 case h_2 => exact old h
 split at h
 case h_2 => exact h.elim
 split at h
 case h_2 => exact h.elim
 split at h
 case h_2 => exact h.elim
 split at h
 case h_2 => exact h.elim
 exact ⟨_, _, h.2.2, h.1, h.2.1, rfl, rfl⟩
theorem opBuild_det {parts : List (Nat × Operand)} {get get' : Operand → AV} (h1 : ∀ x ∈ parts.map (·.2), get' x = get x) (h2 : ∀ x ∈ parts.map (·.2), ∀ k ∈ (get x).keys, blk' k = blk k) :
   Det (opBuild P t parts get blk) (opBuild P t parts get' blk') := by
 intro K h
 unfold opBuild at h ⊢
 simp only [forceC_eq] at h ⊢
 rw [allParts_frame h1 h2]
 split at h
 case h_2 => exact h.elim
 split at h
 case h_2 => exact h.elim
 split at h
 · split at h
   case h_2 => exact h.elim
   try simp only
   rw [fillAV_frame h1]
   split at h
   · exact ⟨_, _, h, rfl, rfl⟩
   · exact h.elim
 · split at h
   case h_2 => exact h.elim
   try simp only
   rw [fillAV_frame h1]
   split at h
   · exact ⟨_, _, h, rfl, rfl⟩
   · exact h.elim
 · exact h.elim
theorem boundsVC_det {len : Nat} {lo hi mx : Option AV} {K : Nat → Nat → Nat → Prop} (h : boundsVC len lo hi mx K) : ∃ l m n, K l m n ∧ boundsVC len lo hi mx (fun l' m' n' => l' = l ∧ m' = m ∧ n' = n) := by
 have low : ∀ {h m : Nat}, lowVC lo h m K → ∃ l m' n, K l m' n ∧ lowVC lo h m (fun l' m'' n' => l' = l ∧ m'' = m' ∧ n' = n) := fun {h m} hl => by
   unfold lowVC at hl ⊢
   split at hl
   · exact ⟨_, _, _, hl, rfl, rfl, rfl⟩
   · exact ⟨_, _, _, hl.2.2, hl.1, hl.2.1, rfl, rfl, rfl⟩
   · exact hl.elim
 unfold boundsVC at h ⊢
 split at h
 · split at h
   · exact low h
   · obtain ⟨a1, a2, h⟩ := h
     obtain ⟨l, m, n, h1, h2⟩ := low h
     exact ⟨l, m, n, h1, a1, a2, h2⟩
   · exact h.elim
 · split at h
   · obtain ⟨a1, a2, a3, a4, h⟩ := h
     obtain ⟨l, m, n, h1, h2⟩ := low h
     exact ⟨l, m, n, h1, a1, a2, a3, a4, h2⟩
   · exact h.elim
 · exact h.elim
theorem boundsVC_mono {len : Nat} {lo hi mx : Option AV} {K K' : Nat → Nat → Nat → Prop} (hk : ∀ l m n, K l m n → K' l m n) (h : boundsVC len lo hi mx K) : boundsVC len lo hi mx K' := by
 have low : ∀ {h m : Nat}, lowVC lo h m K → lowVC lo h m K' := fun {h m} hl => by
   unfold lowVC at hl ⊢
   split at hl
   · exact hk _ _ _ hl
   · exact ⟨hl.1, hl.2.1, hk _ _ _ hl.2.2⟩
   · exact hl.elim
 unfold boundsVC at h ⊢
 split at h
 · split at h
   · exact low h
   · exact ⟨h.1, h.2.1, low h.2.2⟩
   · exact h.elim
 · split at h
   · exact ⟨h.1, h.2.1, h.2.2.1, h.2.2.2.1, low h.2.2.2.2⟩
   · exact h.elim
 · exact h.elim
theorem opSlice_det {x : AV} {lo hi mx : Option AV} (hb : ∀ k ∈ x.keys, blk' k = blk k) : Det (opSlice P t x lo hi mx blk) (opSlice P t x lo hi mx blk') := by
 intro K h
 have key : ∀ {len : Nat} {f : Nat → Nat → Nat → AV}, (boundsVC len lo hi mx fun l h m => K (f l h m) []) → ∃ v acts, K v acts ∧ (boundsVC len lo hi mx fun l h m => f l h m = v ∧ ([] : List BAct) = acts) := fun h => by
   obtain ⟨l, m, n, h1, h2⟩ := boundsVC_det h
   exact ⟨_, _, h1, boundsVC_mono (fun l' m' n' hh => by obtain ⟨rfl, rfl, rfl⟩ := hh; exact ⟨rfl, rfl⟩) h2⟩
 unfold opSlice at h ⊢
 split at h
 · split at h
   · split at h
     · exact key h
     · exact h.elim
   · rename_i k i n
     rw [hb k (by simp [AV.keys])]
     split at h
     · split at h
       · exact key h
       · exact h.elim
     · exact h.elim
   · split at h
     · exact key (f := fun _ _ _ => .pure (.val (.slice none 0 0))) h
     · exact h.elim
   · exact h.elim
 · split at h
   · rename_i k i j
     rw [hb k (by simp [AV.keys])]
     split at h
     · split at h
       · obtain ⟨a1, a2, a3, a4, h⟩ := h
         obtain ⟨v, acts, h1, h2⟩ := key h
         exact ⟨v, acts, h1, a1, a2, a3, a4, h2⟩
       · exact h.elim
     · exact h.elim
   · unfold opSlicePar at h ⊢
     split at h
     case h_2 => exact h.elim
     split at h
     · obtain ⟨a1, a2, h⟩ := h
       obtain ⟨v, acts, h1, h2⟩ := key h
       exact ⟨v, acts, h1, a1, a2, h2⟩
     · exact h.elim
 · split at h
   · exact key h
   · exact h.elim
 · exact h.elim
theorem opAppend_det {x y : AV} {fx : List Nat} {d : Nat} (hb : ∀ k ∈ x.keys, blk' k = blk k) (hy : ∀ k ∈ y.keys, blk' k = blk k) : Det (opAppend P t x y blk fx d) (opAppend P t x y blk' fx d) := by
 intro K h
 unfold opAppend at h ⊢
 split at h
 case h_2 => exact h.elim
 split at h
 case h_2 => exact h.elim
 split at h
 case h_2 => exact h.elim
 split at h
 case h_2 => exact h.elim
 split at h
 case h_2 => exact h.elim
 try simp only
 rw [srcRows_frame hy]
 split at h
 case h_2 => exact h.elim
 try simp only
 split at h
 · exact ⟨_, _, h.2.2, h.1, h.2.1, rfl, rfl⟩
 · rename_i k n
   rw [hb k (by simp [AV.keys])]
   repeat' split at h
   all_goals first | exact h.elim | exact ⟨_, _, h.2.2.2, h.1, h.2.1, h.2.2.1, rfl, rfl⟩
 · exact h.elim
theorem opCopy_det {x y : AV} (hb : ∀ k ∈ x.keys, blk' k = blk k) (hy : ∀ k ∈ y.keys, blk' k = blk k) : Det (opCopy P t x y blk) (opCopy P t x y blk') := by
 intro K h
 unfold opCopy at h ⊢
 split at h
 case h_2 => exact h.elim
 split at h
 case h_2 => exact h.elim
 try simp only
 rw [srcRows_frame hy]
 split at h
 case h_2 => exact h.elim
 try simp only
 split at h
 · rename_i k i n
   rw [hb k (by simp [AV.keys])]
   repeat' split at h
   all_goals first | exact h.elim | exact ⟨_, _, h, rfl, rfl⟩
 · exact h.elim
theorem opConvert_det {src dst : TypeId} {x : AV} {d : Nat} {used used' fx : List Nat} (hb : ∀ k ∈ x.keys, blk' k = blk k) (hu : freshIn d used = true → freshIn d used' = true) : Det (opConvert P src dst x blk d used fx) (opConvert P src dst x blk' d used' fx) := by
 intro K h
 unfold opConvert at h ⊢
 split at h
 · split at h
   · obtain ⟨r, h1, h2⟩ := h
     exact ⟨_, _, h2, r, h1, rfl, rfl⟩
   · exact h.elim
 · split at h
   case h_2 => exact h.elim
   split at h
   case h_2 => exact h.elim
   try simp only
   rw [srcRows_frame hb]
   split at h
   · obtain ⟨bs, h1, h2⟩ := h
     exact ⟨_, _, h2, bs, h1, rfl, rfl⟩
   · exact h.elim
 · split at h
   case h_2 => exact h.elim
   split at h
   case h_2 => exact h.elim
   split at h
   case h_2 => exact h.elim
   unfold guardNew at h ⊢
   split at h
   · rename_i hf
     split at h
     · exact ⟨_, _, h.2, by rw [hu hf]; exact ⟨h.1, rfl, rfl⟩⟩
     · exact h.elim
   · exact h.elim
 · exact h.elim
structure Agr (s s' : St) (o : Oper) : Prop where
 get : ∀ x ∈ o.op.operands, s'.geto x = s.geto x
 blk : ∀ x ∈ o.op.operands, ∀ k ∈ (s.geto x).keys, s'.blk k = s.blk k
 fresh : ∀ d, o.dst = some d → freshIn d s.used = true → freshIn d s'.used = true
def DetM (more : St → Oper → Kont → Prop) : Prop := ∀ (s s' : St) (o : Oper), Agr s s' o → Det (more s o) (more s' o)
theorem DetM.none : DetM (fun _ _ _ => False) := fun _ _ _ _ _ h => h.elim
theorem more1_det {md : Bool} {fx : List Nat} : DetM (more1 md P fx) := by
 intro s s' o ha K h
 unfold more1 at h ⊢
 split at h
 · rename_i t x c hx
   have hg := ha.get
   have hb := ha.blk
   rw [hx] at hg hb
   simp only [Op.operands, List.mem_toArray, List.mem_cons, List.not_mem_nil, or_false, forall_eq_or_imp, forall_eq] at hg hb
   split at h
   · rename_i d hd
     rw [hg.1, hg.2]
     exact guardNew_det (ha.fresh d hd) opMake_det K h
   · exact h.elim
 · rename_i t len parts hx
   have hg := ha.get
   have hb := ha.blk
   rw [hx] at hg hb
   simp only [Op.operands, List.mem_toArray] at hg hb
   split at h
   · rename_i d hd
     exact guardNew_det (ha.fresh d hd) (opBuildSliceA_det hg hb) K h
   · exact h.elim
 · rename_i t parts hx
   have hg := ha.get
   have hb := ha.blk
   rw [hx] at hg hb
   simp only [Op.operands, List.mem_toArray] at hg hb
   exact opBuild_det hg hb K h
 · rename_i t x lo hi mx hx
   have hg := ha.get
   have hb := ha.blk
   rw [hx] at hg hb
   simp only [Op.operands, Array.mem_append, List.mem_toArray, List.mem_cons, List.not_mem_nil, or_false, Option.mem_toArray] at hg hb
   have e : ∀ y : Option Operand, (∀ z, y = some z → s'.geto z = s.geto z) → y.map s'.geto = y.map s.geto := fun y hy => by
     cases y with
     | none => rfl
     | some z => simp [hy z rfl]
   rw [hg x (.inl (.inl (.inl rfl))), e lo fun z hz => hg z (.inl (.inl (.inr hz))), e hi fun z hz => hg z (.inl (.inr hz)), e mx fun z hz => hg z (.inr hz)]
   exact opSlice_det (hb x (.inl (.inl (.inl rfl)))) K h
 · rename_i src dst x hx
   have hg := ha.get
   have hb := ha.blk
   rw [hx] at hg hb
   simp only [Op.operands, List.mem_toArray, List.mem_cons, List.not_mem_nil, or_false, forall_eq] at hg hb
   split at h
   · rename_i d hd
     rw [hg]
     exact opConvert_det hb (ha.fresh d hd) K h
   · exact h.elim
 · rename_i c hx
   have hg := ha.get
   have hb := ha.blk
   rw [hx] at hg hb
   simp only [Op.operands, Call.operands] at hg hb
   have mem : ∀ {l : List Operand} {x : Operand}, c.args.toList = l → x ∈ l → x ∈ (match c.callee with | .value f => #[f] | .invoke r _ => #[r] | .builtin _ => #[]) ++ c.args := fun e hx => by
     rw [Array.mem_append]
     right
     rw [← Array.mem_toList_iff, e]
     exact hx
   split at h
   · split at h
     · rename_i x y t tx hargs hts
       split at h
       case h_2 => exact h.elim
       split at h
       · rename_i d hd
         have m1 := mem hargs (x := x) (by simp)
         have m2 := mem hargs (x := y) (by simp)
         try simp only
         rw [hg x m1, hg y m2]
         exact guardNew_det (ha.fresh d hd) (opAppend_det (hb x m1) (hb y m2)) K h
       · exact h.elim
     · exact h.elim
   · split at h
     · rename_i x y t tx hargs hts
       have m1 := mem hargs (x := x) (by simp)
       have m2 := mem hargs (x := y) (by simp)
       try simp only
       rw [hg x m1, hg y m2]
       exact opCopy_det (hb x m1) (hb y m2) K h
     · exact h.elim
   · split at h
     · rename_i x y hargs
       have m1 := mem hargs (x := x) (by simp)
       have m2 := mem hargs (x := y) (by simp)
       try simp only
       rw [hg x m1, hg y m2]
       split at h
       · split at h
         · exact ⟨_, _, h, rfl, rfl⟩
         · exact h.elim
       · exact h.elim
     · exact h.elim
   · split at h
     · rename_i x y hargs
       have m1 := mem hargs (x := x) (by simp)
       have m2 := mem hargs (x := y) (by simp)
       try simp only
       rw [hg x m1, hg y m2]
       split at h
       · split at h
         · exact ⟨_, _, h, rfl, rfl⟩
         · exact h.elim
       · exact h.elim
     · exact h.elim
   · exact h.elim
 · exact h.elim
theorem opVC_det {more : St → Oper → Kont → Prop} (hm : DetM more) {fx : List Nat} {s s' : St} {o : Oper} (ha : Agr s s' o) : Det (opVC true more P fx s o) (opVC true more P fx s' o) := by
 intro K h
 have hmore : more s o K → ∃ v acts, K v acts ∧ more s' o (fun v' a' => v' = v ∧ a' = acts) := fun h => hm s s' o ha K h
 have hg := ha.get
 have hb := ha.blk
 unfold opVC at h ⊢
 split at h
 · rename_i x hx
   rw [hx] at hg hb
   simp only [Op.operands, List.mem_toArray, List.mem_cons, List.not_mem_nil, or_false, forall_eq_or_imp, forall_eq] at hg hb
   rw [hg]
   exact force_det K h
 · rename_i x hx
   rw [hx] at hg hb
   simp only [Op.operands, List.mem_toArray, List.mem_cons, List.not_mem_nil, or_false, forall_eq_or_imp, forall_eq] at hg hb
   rw [hg]
   exact force_det K h
 · rename_i c a b hx
   rw [hx] at hg hb
   simp only [Op.operands, List.mem_toArray, List.mem_cons, List.not_mem_nil, or_false, forall_eq_or_imp, forall_eq] at hg hb
   rw [hg.1, hg.2.1, hg.2.2]
   exact opPick_det K h
 · rename_i t hx
   split at h
   · rename_i d hd
     exact guardNew_det (ha.fresh d hd) opAlloc_det K h
   · exact h.elim
 · rename_i t x hx
   rw [hx] at hg hb
   simp only [Op.operands, List.mem_toArray, List.mem_cons, List.not_mem_nil, or_false, forall_eq_or_imp, forall_eq] at hg hb
   split at h
   · rename_i d hd
     rw [hg]
     exact guardNew_det (ha.fresh d hd) (opBoxA_det hb) K h
   · exact h.elim
 · rename_i t x hx
   rw [hx] at hg hb
   simp only [Op.operands, List.mem_toArray, List.mem_cons, List.not_mem_nil, or_false, forall_eq_or_imp, forall_eq] at hg hb
   rw [hg]
   exact opLoad_det hb K h
 · rename_i t x v hx
   rw [hx] at hg hb
   simp only [Op.operands, List.mem_toArray, List.mem_cons, List.not_mem_nil, or_false, forall_eq_or_imp, forall_eq] at hg hb
   rw [hg.1, hg.2]
   exact opStoreA_det hb.1 hb.2 K h
 · rename_i t x f hx
   rw [hx] at hg hb
   simp only [Op.operands, List.mem_toArray, List.mem_cons, List.not_mem_nil, or_false, forall_eq_or_imp, forall_eq] at hg hb
   rw [hg]
   exact opFieldAddr_det hb K h
 · rename_i t x i hx
   rw [hx] at hg hb
   simp only [Op.operands, List.mem_toArray, List.mem_cons, List.not_mem_nil, or_false, forall_eq_or_imp, forall_eq] at hg hb
   rw [hg.1, hg.2]
   exact opIndexAddr_det hb.1 K h
 · rename_i t x f hx
   rw [hx] at hg hb
   simp only [Op.operands, List.mem_toArray, List.mem_cons, List.not_mem_nil, or_false, forall_eq_or_imp, forall_eq] at hg hb
   rw [hg]
   exact opField_det K h
 · rename_i t x i hx
   rw [hx] at hg hb
   simp only [Op.operands, List.mem_toArray, List.mem_cons, List.not_mem_nil, or_false, forall_eq_or_imp, forall_eq] at hg hb
   rw [hg.1, hg.2]
   exact opIndex_det K h
 · rename_i op t x y yt hx
   rw [hx] at hg hb
   simp only [Op.operands, List.mem_toArray, List.mem_cons, List.not_mem_nil, or_false, forall_eq_or_imp, forall_eq] at hg hb
   rw [hg.1, hg.2]
   split at h
   · exact h.elim
   rename_i hn
   rw [lenLiveB_frame hb.1]
   split at h
   · exact opBin_det hn K h
   · exact h.elim
 · rename_i op t x hx
   rw [hx] at hg hb
   simp only [Op.operands, List.mem_toArray, List.mem_cons, List.not_mem_nil, or_false, forall_eq_or_imp, forall_eq] at hg hb
   rw [hg]
   exact opUn_det K h
 · rename_i x i hx
   rw [hx] at hg hb
   simp only [Op.operands, List.mem_toArray, List.mem_cons, List.not_mem_nil, or_false, forall_eq_or_imp, forall_eq] at hg hb
   rw [hg]
   exact opExtract_det K h
 · rename_i f first captured hx
   rw [hx] at hg hb
   simp only [Op.operands] at hg hb
   split at h
   · have e : captured.toList.map s'.geto = captured.toList.map s.geto := List.map_congr_left fun x hx => hg x (by rw [Array.mem_append]; right; simpa using hx)
     rw [e]
     split at h
     · exact ⟨_, _, h, rfl, rfl⟩
     · exact h.elim
   · rename_i x hfirst
     have e1 : first = #[x] := Array.toList_inj.1 (by simpa using hfirst)
     subst e1
     rw [hg x (by simp)]
     split at h
     · exact ⟨_, _, h, rfl, rfl⟩
     · exact h.elim
   · exact h.elim
 · rename_i c hx
   rw [hx] at hg hb
   simp only [Op.operands, Call.operands] at hg hb
   have mem : ∀ {l : List Operand} {x : Operand}, c.args.toList = l → x ∈ l → x ∈ (match c.callee with | .value f => #[f] | .invoke r _ => #[r] | .builtin _ => #[]) ++ c.args := fun e hx => by
     rw [Array.mem_append]
     right
     rw [← Array.mem_toList_iff, e]
     exact hx
   split at h
   · split at h
     · rename_i x t hargs hts
       have m1 := mem hargs (x := x) (by simp)
       try simp only
       rw [hg x m1, lenLiveB_frame (hb x m1)]
       split at h
       · exact opLen_det K h
       · exact h.elim
     · exact h.elim
   · rename_i f hc
     rw [hc] at hg hb
     have mf : f ∈ (#[f] ++ c.args) := by simp
     try simp only
     rw [hg f mf]
     split at h
     · rename_i f' fs' cs' hfn
       have e : c.args.toList.map s'.geto = c.args.toList.map s.geto := List.map_congr_left fun x hx => hg x (by rw [Array.mem_append]; right; simpa using hx)
       rw [e]
       exact callVC_det (fun k hk => by
         obtain ⟨x, hx, hkx⟩ := AV.mem_keysL.1 hk
         rcases List.mem_append.1 hx with hx | hx
         · rcases List.mem_append.1 hx with hx | hx
           · exact hb f mf k (fnOf_keys hfn k (AV.mem_keysL.2 ⟨x, List.mem_append_left _ hx, hkx⟩))
           · obtain ⟨y, hy, rfl⟩ := List.mem_map.1 hx
             exact hb y (by rw [Array.mem_append]; right; simpa using hy) k hkx
         · exact hb f mf k (fnOf_keys hfn k (AV.mem_keysL.2 ⟨x, List.mem_append_right _ hx, hkx⟩))) K h
     · exact hmore h
   · exact hmore h
 · exact hmore h
end
end Go.Avc
/- More operations: a pointer is not nil, a slice as an array, greatest and least of three. Conditions: none. -/
namespace Go.Avc
open Go.RowKit
def opNilCheck (x : AV) (blk : Nat → Option Blk) (K : Kont) : Prop :=
 match x with
 | .loc k i j => match (blk k).isSome with
   | true => K (.loc k i j) []
   | false => False
 | .pure (.ptr cs) => K (.pure (.ptr cs)) []
 | .pure (.par sz rows) => K (.pure (.par sz rows)) []
 | _ => False
def opS2A (P : Program) (t : TypeId) (x : AV) (K : Kont) : Prop :=
 match P.underlying t with
 | some (.array n e) => match x with
   | .pure (.sl sz rows) => match natEq (szOf P e) sz with
     | true => rows.length = n ∧ 0 < n ∧ K (.pure (.par sz rows)) []
     | false => False
   | _ => False
 | _ => False
def op3 (mx : Bool) (x y z : AV) (K : Kont) : Prop :=
 match x, y, z with
 | .pure (.val (.int k a)), .pure (.val (.int k' b)), .pure (.val (.int k'' c)) => match kEq k k' with
   | true => match kEq k k'' with
     | true => match mx with
       | true => K (.pure (.val (.int k (max (max a b) c)))) []
       | false => K (.pure (.val (.int k (min (min a b) c)))) []
     | false => False
   | false => False
 | _, _, _ => False
def args3 (c : Call) : Option (Bool × Operand × Operand × Operand) := match c.callee with
 | .builtin .max => match c.args.toList with
   | [x, y, z] => some (true, x, y, z)
   | _ => none
 | .builtin .min => match c.args.toList with
   | [x, y, z] => some (false, x, y, z)
   | _ => none
 | _ => none
def more2 (md : Bool) (P : Program) (fx : List Nat) (s : St) (o : Oper) (K : Kont) : Prop :=
 match o.op with
 | .nilCheck x => opNilCheck (s.geto x) s.blk K
 | .sliceToArrayPointer t x => opS2A P t (s.geto x) K
 | .call c => match args3 c with
   | some (b, x, y, z) => op3 b (s.geto x) (s.geto y) (s.geto z) K
   | none => more1 md P fx s o K
 | _ => more1 md P fx s o K
section
variable {Γ : Ctx} {s : St} {tm : Array Value} {w : World} {β : BM} {P : Program} {K : Kont}
theorem s2a_sound (h : Rl Γ s tm w β) {t : TypeId} {x : AV} {u : Value} (hx : AR w (Av Γ.X β) β x u) (hK : opS2A P t x K) : Out Γ s tm K ((Instr.arrayAt t u).run P w) := by
 unfold opS2A at hK
 split at hK
 case h_2 => exact hK.elim
 rename_i n e ht
 split at hK
 case h_2 => exact hK.elim
 rename_i sz rows
 split at hK
 case h_2 => exact hK.elim
 obtain ⟨hn, h0, hK⟩ := hK
 cases hx with
 | pure _ _ hp =>
 cases hp with
 | slnil => simp at hn; omega
 | sl _ _ a cap us hc hm hs hb hl hr hp =>
   refine Out.same h hK (u := .pointer (some a)) ?_ (.pure _ _ (.par _ _ a us hs hb hl hr hp)) (by simp [AV.keys])
   simp only [Instr.arrayAt, Sem.run_bind, run_underlying ht, Result.andThen_ok]
   rw [if_neg (by omega)]
   rfl
theorem args3_spec {c : Call} {b : Bool} {x y z : Operand} (h : args3 c = some (b, x, y, z)) : c.args = #[x, y, z] ∧ c.callee = .builtin (if b then .max else .min) := by
 unfold args3 at h
 split at h
 · rename_i hc
   split at h
   · rename_i ha; cases h; exact ⟨Array.toList_inj.1 (by simpa using ha), hc⟩
   · cases h
 · rename_i hc
   split at h
   · rename_i ha; cases h; exact ⟨Array.toList_inj.1 (by simpa using ha), hc⟩
   · cases h
 · cases h
theorem op3_sound (h : Rl Γ s tm w β) {b : Bool} {x y z : AV} {ux uy uz : Value} (hx : AR w (Av Γ.X β) β x ux) (hy : AR w (Av Γ.X β) β y uy) (hz : AR w (Av Γ.X β) β z uz) (hK : op3 b x y z K) (ts : Array TypeId) (t : TypeId) :
   Out Γ s tm K ((if b then Builtin.max_ ts t #[ux, uy, uz] else Builtin.min_ ts t #[ux, uy, uz]).run P w) := by
 unfold op3 at hK
 split at hK
 case h_2 => exact hK.elim
 rename_i k a k' b' k'' c
 rw [hx.val_inv, hy.val_inv, hz.val_inv]
 split at hK
 case h_2 => exact hK.elim
 rename_i e1
 split at hK
 case h_2 => exact hK.elim
 rename_i e2
 have e1 := kEq_spec e1
 have e2 := kEq_spec e2
 subst e1 e2
 split at hK
 · refine Out.val h hK ?_
   simp only [if_true]
   have e1 : (if a < b' then b' else a) = max a b' := by rw [Int.max_def]; split <;> split <;> omega
   have e2 : (if max a b' < c then c else max a b') = max (max a b') c := by rw [Int.max_def (max a b') c]; split <;> split <;> omega
   simp [Builtin.max_, Builtin.max2]
   omega
 · refine Out.val h hK ?_
   simp [Builtin.min_, Builtin.min2]
   omega
theorem more2_ok0 {md : Bool} : MoreOK0 (more2 md Γ.P Γ.fx) Γ := by
 intro F hF n s a w β o K hK h ho next Q hk
 have old : more1 md Γ.P Γ.fx s o K → o.wpIn F n Γ.P a w next Q := fun hK => more1_ok0 F hF n s a w β o K hK h ho next Q hk
 have hd : a.defers = a.defers := rfl
 have fin : ∀ (S : Sem Value), (execOp a.eval o) = (do pure (.value (← S))) → (∀ c, o.op ≠ .defer c) → Out Γ s a.tmps K (S.run Γ.P w) → o.wpIn F n Γ.P a w next Q := by
   rintro S he hnd ⟨v, acts, u, w', β', hKv, hr, hR, hv, hkv⟩
   refine wpIn_of_run hF hnd (v := u) (w' := w') ?_ (hk v acts _ w' hKv (putD_R hd hR ho hv hkv))
   rw [he, Sem.run_bind, hr, Result.andThen_ok]
   rfl
 have same : ∀ (x : AV) (u : Value), (execOp a.eval o).run Γ.P w = .ok (.value u) w → (∀ c, o.op ≠ .defer c) → AR w (Av Γ.X β) β x u → (∀ k ∈ x.keys, k ∈ s.used) → K x [] → o.wpIn F n Γ.P a w next Q := fun x u hr hnd hx hkx hK =>
   wpIn_of_run hF hnd (v := u) (w' := w) hr (hk x [] _ w hK (putD_R hd h ho hx hkx))
 unfold more2 at hK
 split at hK
 · rename_i x hx
   have hax := geto_AR h x
   have hkx := geto_keys h x
   unfold opNilCheck at hK
   split at hK
   · rename_i k i j hg
     rw [hg] at hax hkx
     split at hK
     case h_2 => exact hK.elim
     rename_i hs
     have hβ : ∃ bi, β k = some bi := by
       have hb := h.blks k
       cases hβ : β k with
       | none =>
         rw [hβ] at hb
         cases hsk : s.blk k with
         | none => rw [hsk] at hs; cases hs
         | some b => rw [hsk] at hb; exact hb.elim
       | some bi => exact ⟨bi, rfl⟩
     obtain ⟨bi, hβ⟩ := hβ
     have he := hax.loc_inv hβ
     refine same _ _ ?_ (by rw [hx]; intro c; simp) hax hkx hK
     simp only [execOp, hx]
     rw [he]
     rfl
   · rename_i cs hg
     rw [hg] at hax hkx
     refine same _ (a.eval x) ?_ (by rw [hx]; intro c; simp) hax hkx hK
     cases hax with
     | pure _ _ hp =>
     generalize he : a.eval x = ux at hp
     cases hp with
     | ptr _ ad us hb hr hp =>
     simp only [execOp, hx]
     rw [he]
     rfl
   · rename_i sz rows hg
     rw [hg] at hax hkx
     refine same _ (a.eval x) ?_ (by rw [hx]; intro c; simp) hax hkx hK
     cases hax with
     | pure _ _ hp =>
     generalize he : a.eval x = ux at hp
     cases hp with
     | par _ _ ad us hs hb hl hr hp =>
     simp only [execOp, hx]
     rw [he]
     rfl
   · exact hK.elim
 · rename_i t x hx
   exact fin _ (by simp only [execOp, hx]) (by rw [hx]; intro c; simp) (s2a_sound h (geto_AR h x) hK)
 · rename_i c hx
   split at hK
   · rename_i b x y z hc
     obtain ⟨e1, e2⟩ := args3_spec hc
     refine fin _ ?_ (by rw [hx]; intro c; simp) (op3_sound h (geto_AR h x) (geto_AR h y) (geto_AR h z) hK c.argTypes o.type)
     cases b <;> (simp only [execOp, hx, resolve, e2, e1, invoke, builtin]; simp)
   · exact old hK
 · exact old hK
end
theorem more2_ok {Γ : Ctx} {md : Bool} : MoreOK (more2 md Γ.P Γ.fx) Γ := fun X w β => more2_ok0 (Γ := Γ.here X w β)
theorem more2_det {P : Program} {md : Bool} {fx : List Nat} : DetM (more2 md P fx) := by
 intro s s' o ha K h
 have old : more1 md P fx s o K → ∃ v acts, K v acts ∧ more1 md P fx s' o (fun v' a' => v' = v ∧ a' = acts) := fun h => more1_det s s' o ha K h
 have hg := ha.get
 have hb := ha.blk
 unfold more2 at h ⊢
 split at h
 · rename_i x hx
   rw [hx] at hg hb
   simp only [Op.operands, List.mem_toArray, List.mem_cons, List.not_mem_nil, or_false, forall_eq_or_imp, forall_eq] at hg hb
   rw [hg]
   unfold opNilCheck at h ⊢
   split at h
   · rename_i k i j hk
     simp only [hk]
     rw [hk] at hb
     rw [hb k (by simp [AV.keys])]
     split at h
     · exact ⟨_, _, h, rfl, rfl⟩
     · exact h.elim
   · rename_i cs hk
     simp only [hk]
     exact ⟨_, _, h, rfl, rfl⟩
   · rename_i cs hk
     simp only [hk]
     exact ⟨_, _, h, rfl, rfl⟩
   · exact h.elim
 · rename_i t x hx
   rw [hx] at hg hb
   simp only [Op.operands, List.mem_toArray, List.mem_cons, List.not_mem_nil, or_false, forall_eq_or_imp, forall_eq] at hg hb
   rw [hg]
   unfold opS2A at h ⊢
   split at h
   case h_2 => exact h.elim
   split at h
   case h_2 => exact h.elim
   simp only
   split at h
   · obtain ⟨h1, h2, h⟩ := h
     exact ⟨_, _, h, h1, h2, rfl, rfl⟩
   · exact h.elim
 · rename_i c hx
   split at h
   · rename_i b x y z hc
     obtain ⟨e1, e2⟩ := args3_spec hc
     rw [hx] at hg
     simp only [Op.operands, Call.operands, e1, e2, Array.mem_append, List.mem_toArray, List.mem_cons, List.not_mem_nil, or_false, false_or] at hg
     try simp only
     rw [hg x (by simp), hg y (by simp), hg z (by simp)]
     unfold op3 at h ⊢
     split at h
     case h_2 => exact h.elim
     split at h
     case h_2 => exact h.elim
     split at h
     case h_2 => exact h.elim
     simp only
     split at h <;> exact ⟨_, _, h, rfl, rfl⟩
   · exact old h
 · exact old h
/-! ### Lists of single cells -/
theorem singles_flat {α : Type} (f : α → PV) (l : List α) : singles (l.map fun b => [f b]).flatten = l.map fun b => [f b] := by
 induction l with
 | nil => rfl
 | cons a l ih => simp only [singles, List.map_cons, List.flatten_cons, List.map_append, List.map_nil, List.cons_append, List.nil_append] at ih ⊢; rw [ih]
theorem flat_len {α : Type} (f : α → PV) (l : List α) : (l.map fun b => [f b]).flatten.length = l.length := by
 induction l with
 | nil => rfl
 | cons a l ih => rw [List.map_cons, List.flatten_cons, List.length_append, ih]; simp [Nat.add_comm]
theorem set_map (l : List UInt8) (i : Nat) (x : UInt8) : (l.map fun b => [PV.val (.int .u8 b.toNat)]).set i [.val (.int .u8 x.toNat)] = (l.set i x).map fun b => [PV.val (.int .u8 b.toNat)] := by rw [List.map_set]
theorem onesB_map {α : Type} (f : α → PV) (l : List α) (h : ∀ a, (f a).one = true) : onesB (l.map f) = true := by
 induction l with
 | nil => rfl
 | cons a l ih => simp only [List.map_cons, onesB, h a, cond_true]; exact ih
theorem onesB_flat {α : Type} (f : α → PV) (l : List α) (h : ∀ a, (f a).one = true) : onesB (l.map fun b => [f b]).flatten = true := by
 have : (l.map fun b => [f b]).flatten = l.map f := by
   induction l with
   | nil => rfl
   | cons a l ih => simp only [List.map_cons, List.flatten_cons, ih, List.cons_append, List.nil_append]
 rw [this]; exact onesB_map f l h
end Go.Avc
