/- More operations: make, literals, slices, append, copy, conversions. Conditions: none. -/
import Derived.Test.YtmkkfgifeekgeaaVcL
namespace Go.Avc
open Go.RowKit

def zeroOf (P : Program) (t : TypeId) : Option (List PV) :=
  match P.info? t with
  | some i => match i.zero with
    | some z => match allOne (fun _ => none) (z.cells.toList.map fun v => .pure (.val v)) with
      | true => some (z.cells.toList.map .val)
      | false => none
    | none => none
  | none => none
def bytesOf (P : Program) (t : TypeId) : Option Nat := match P.info? t with
  | some i => match i.bytes with
    | 0 => some 0
    | n + 1 => some (n + 1)
  | none => none
def natEq (a : Option Nat) (b : Nat) : Bool := match a with
  | some a => Nat.beq a b
  | none => false

/-- The elements that a value has as a source of append or copy. -/
def srcRows (x : AV) (blk : Nat → Option Blk) (sz : Nat) : Option (List (List PV)) :=
  match x with
  | .pure (.sl z rows) => match Nat.beq z sz with
    | true => some rows
    | false => none
  | .lsl k i n => match blk k with
    | some (.row z rows) => match Nat.beq z sz with
      | true => some ((rows.drop i).take n)
      | false => none
    | _ => none
  | .pure (.val (.slice none 0 0)) => some []
  | .pure (.val (.string s)) => match Nat.beq 1 sz with
    | true => some (s.data.toList.map fun b => [.val (.int .u8 (b.toNat : Int))])
    | false => none
  | _ => none

def opMake (P : Program) (t : TypeId) (n c : AV) (d : Nat) (K : Kont) : Prop :=
  match n, c with
  | .pure (.val (.int _ n)), .pure (.val (.int _ c)) => match P.underlying t with
    | some (.slice e) => match zeroOf P e with
      | some z => match szOf P e with
        | some (s + 1) => match bytesOf P e with
          | some by_ => match natEq (some (s + 1)) z.length with
            | true => 0 ≤ n ∧ n ≤ c ∧ c ≤ 140737488355328 ∧ c * (by_ : Int) ≤ 281474976710656 ∧ K (.lsl d 0 n.toNat) [.new d (.row (s + 1) (List.replicate n.toNat z))]
            | false => False
          | none => False
        | _ => False
      | none => False
    | _ => False
  | _, _ => False

def rowsOf (blk : Nat → Option Blk) (sz : Nat) (get : Operand → AV) : Nat → List (Nat × Operand) → Option (List (List PV))
  | _, [] => some []
  | i, (j, x) :: l => match Nat.beq i j with
    | true => match allOne blk (cellsOf (get x)) with
      | true => match toPVL blk (cellsOf (get x)) with
        | some ps => match Nat.beq ps.length sz with
          | true => (rowsOf blk sz get (i + 1) l).map (ps :: ·)
          | false => none
        | none => none
      | false => none
    | false => none
def keysOps (get : Operand → AV) : List (Nat × Operand) → List Nat
  | [] => []
  | (_, x) :: l => (get x).keys ++ keysOps get l

def opBuildSlice (md : Bool) (P : Program) (t : TypeId) (len : Nat) (parts : List (Nat × Operand)) (get : Operand → AV) (blk : Nat → Option Blk) (fx : List Nat) (d : Nat) (K : Kont) : Prop :=
  match P.underlying t with
  | some (.slice e) => match szOf P e with
    | some (s + 1) => match zeroOf P e with
      | some z => match natEq (some (s + 1)) z.length with
        | true => match rowsOf blk (s + 1) get 0 parts with
          | some rows => match Nat.beq parts.length len with
            | true => match disj (keysOps get parts) fx with
              | true => len * (s + 1) ≤ 16777216 ∧ K (.lsl d 0 len) (fk md (keysOps get parts) ++ [.new d (.row (s + 1) rows)])
              | false => False
            | false => False
          | none => False
        | false => False
      | none => False
    | _ => False
  | _ => False

def placesOf (P : Program) : List Field → Option (List (Nat × Nat))
  | [] => some []
  | f :: l => match szOf P f.type with
    | some n => match placesOf P l with
      | some r => some ((f.offset, n) :: r)
      | none => none
    | none => none
def fillAV (place : Nat → Option (Nat × Nat)) (get : Operand → AV) : List AV → List (Nat × Operand) → Option (List AV)
  | cells, [] => some cells
  | cells, (i, x) :: l => match place i with
    | some (off, n) => match Nat.beq n (cellsOf (get x)).length with
      | true => match splice off cells (cellsOf (get x)) with
        | some cells' => fillAV place get cells' l
        | none => none
      | false => none
    | none => none
def allParts (blk : Nat → Option Blk) (get : Operand → AV) : List (Nat × Operand) → Bool
  | [] => true
  | (_, x) :: l => bif allOne blk (cellsOf (get x)) then allParts blk get l else false

def opBuild (P : Program) (t : TypeId) (parts : List (Nat × Operand)) (get : Operand → AV) (blk : Nat → Option Blk) (K : Kont) : Prop :=
  match zeroOf P t with
  | some z => match allParts blk get parts with
    | true => match P.underlying t with
      | some (.struct fs) => match placesOf P fs.toList with
        | some places => match fillAV (nth places) get (pures z) parts with
          | some cells => forceC cells fun cs => K (.agg cs) []
          | none => False
        | none => False
      | some (.array _ e) => match szOf P e with
        | some sz => match fillAV (fun i => some (i * sz, sz)) get (pures z) parts with
          | some cells => forceC cells fun cs => K (.agg cs) []
          | none => False
        | none => False
      | _ => False
    | false => False
  | none => False

def cut {α : Type} (l : List α) (i j : Nat) : List α := (l.drop i).take (j - i)

theorem length_cut {α : Type} (l : List α) (i j : Nat) : (cut l i j).length = min (j - i) (l.length - i) := by simp [cut]
/-- All lengths in one, for simp. -/
theorem lenS : (∀ {α : Type}, ([] : List α).length = 0) ∧ (∀ {α β : Type} {l : List α} (f : α → β), (l.map f).length = l.length) ∧ (∀ {α : Type} {a : α} {l : List α}, (a :: l).length = l.length + 1) ∧
    (∀ {α : Type} {l m : List α}, (l ++ m).length = l.length + m.length) ∧ (∀ {α : Type} {n : Nat} {a : α}, (List.replicate n a).length = n) ∧ (∀ {α : Type} {l : List α} {i : Nat} {a : α}, (l.set i a).length = l.length) ∧
    (∀ {α : Type} {l : List α}, l.reverse.length = l.length) ∧ (∀ {α : Type} {l : List α} {i : Nat}, (l.take i).length = min i l.length) ∧ (∀ {α : Type} {l : List α} {i : Nat}, (l.drop i).length = l.length - i) ∧
    (∀ {α : Type} (l : List α) (i j : Nat), (cut l i j).length = min (j - i) (l.length - i)) :=
  ⟨List.length_nil, List.length_map, List.length_cons, List.length_append, List.length_replicate, List.length_set, List.length_reverse, List.length_take, List.length_drop, length_cut⟩
def lowVC (lo : Option AV) (h m : Nat) (K : Nat → Nat → Nat → Prop) : Prop :=
  match lo with
  | none => K 0 h m
  | some (.pure (.val (.int _ l))) => 0 ≤ l ∧ l ≤ (h : Int) ∧ K l.toNat h m
  | some _ => False
/-- The bounds of a slice expression: low, high, and the greatest index that is allowed. -/
def boundsVC (len : Nat) (lo hi mx : Option AV) (K : Nat → Nat → Nat → Prop) : Prop :=
  match mx with
  | none => match hi with
    | none => lowVC lo len len K
    | some (.pure (.val (.int _ h))) => 0 ≤ h ∧ h ≤ (len : Int) ∧ lowVC lo h.toNat len K
    | some _ => False
  | some (.pure (.val (.int _ m))) => match hi with
    | some (.pure (.val (.int _ h))) => 0 ≤ m ∧ m ≤ (len : Int) ∧ 0 ≤ h ∧ h ≤ m ∧ lowVC lo h.toNat m.toNat K
    | _ => False
  | some _ => False

def opSlice (P : Program) (t : TypeId) (x : AV) (lo hi mx : Option AV) (blk : Nat → Option Blk) (K : Kont) : Prop :=
  match P.underlying t with
  | some (.slice e) => match x with
    | .pure (.sl sz rows) => match natEq (szOf P e) sz with
      | true => boundsVC rows.length lo hi mx fun l h _ => K (.pure (.sl sz (cut rows l h))) []
      | false => False
    | .lsl k i n => match blk k with
      | some (.row sz _) => match natEq (szOf P e) sz with
        | true => boundsVC n lo hi mx fun l h _ => K (.lsl k (i + l) (h - l)) []
        | false => False
      | _ => False
    | .pure (.val (.slice none 0 0)) => match szOf P e with
      | some _ => boundsVC 0 lo hi mx fun _ _ _ => K (.pure (.val (.slice none 0 0))) []
      | none => False
    | _ => False
  | some (.array len e) => match x with
    | .loc k i j => match blk k with
      | some (.row sz rows) => match natEq (szOf P e) sz with
        | true => i = 0 ∧ j = 0 ∧ rows.length = len ∧ len ≤ 140737488355328 ∧ boundsVC len lo hi mx fun l h _ => K (.lsl k l (h - l)) []
        | false => False
      | _ => False
    | _ => False
  | some .string => match x, mx with
    | .pure (.val (.string s)), none => boundsVC s.size lo hi none fun l h _ => K (.pure (.val (.string (s.extract l h)))) []
    | _, _ => False
  | _ => False

def srcKind (P : Program) (t : TypeId) : Bool := match P.underlying t with
  | some (.slice _) => true
  | some .string => true
  | _ => false

def opAppend (P : Program) (t : TypeId) (x y : AV) (blk : Nat → Option Blk) (fx : List Nat) (d : Nat) (K : Kont) : Prop :=
  match P.underlying t with
  | some (.slice e) => match szOf P e with
    | some (s + 1) => match bytesOf P e with
      | some by_ => match zeroOf P e with
       | some z => match natEq (some (s + 1)) z.length with
        | true => match srcRows y blk (s + 1) with
         | some news => match x with
          | .pure (.val (.slice none 0 0)) => news.length * by_ ≤ 140737488355328 ∧ news.length ≤ 140737488355328 ∧ K (.lsl d 0 news.length) [.new d (.row (s + 1) news)]
          | .lsl k 0 n => match blk k with
            | some (.row sz rows) => match Nat.beq sz (s + 1) with
              | true => match freshIn k fx with
                | true => n = rows.length ∧ (rows.length + news.length) * by_ ≤ 140737488355328 ∧ rows.length + news.length ≤ 140737488355328 ∧
                    K (.lsl d 0 (rows.length + news.length)) [.kill k, .new d (.row (s + 1) (rows ++ news))]
                | false => False
              | false => False
            | _ => False
          | _ => False
         | none => False
        | false => False
       | none => False
      | none => False
    | _ => False
  | _ => False

def ovr {α : Type} (l : List α) (i c : Nat) (src : List α) : List α := l.take i ++ src.take c ++ l.drop (i + c)

def opCopy (P : Program) (t : TypeId) (x y : AV) (blk : Nat → Option Blk) (K : Kont) : Prop :=
  match P.underlying t with
  | some (.slice e) => match szOf P e with
    | some (s + 1) => match srcRows y blk (s + 1) with
      | some src => match x with
        | .lsl k i n => match blk k with
          | some (.row sz rows) => match Nat.beq sz (s + 1) with
            | true => K (.int (min src.length n : Nat)) [.set k (.row sz (ovr rows i (min src.length n) src))]
            | false => False
          | _ => False
        | _ => False
      | none => False
    | _ => False
  | _ => False

def notStr : AV → Bool
  | .pure (.val (.string _)) => false
  | _ => true
def byteRows (bs : List UInt8) : List (List PV) := bs.map fun b => [.val (.int .u8 (b.toNat : Int))]

def opConvert (P : Program) (src dst : TypeId) (x : AV) (blk : Nat → Option Blk) (d : Nat) (used fx : List Nat) (K : Kont) : Prop :=
  match P.underlying src, P.underlying dst with
  | some (.int _), some (.int k) => match x with
    | .pure (.val (.int _ n)) => ∃ r, k.wrap n = r ∧ K (.pure (.val (.int k r))) []
    | _ => False
  | some (.slice e), some .string => match P.underlying e with
    | some (.int .u8) => match notStr x with
      | true => match srcRows x blk 1 with
        | some rows => ∃ bs : List UInt8, rows = byteRows bs ∧ K (.pure (.val (.string ⟨bs.toArray⟩))) []
        | none => False
      | false => False
    | _ => False
  | some .string, some (.slice e) => match P.underlying e with
    | some (.int .u8) => match szOf P e with
      | some 1 => match x with
        | .pure (.val (.string s)) => guardNew d used fx (s.size ≤ 140737488355328 ∧ K (.lsl d 0 s.size) [.new d (.row 1 (byteRows s.data.toList))])
        | _ => False
      | _ => False
    | _ => False
  | _, _ => False

def more1 (md : Bool) (P : Program) (fx : List Nat) (s : St) (o : Oper) (K : Kont) : Prop :=
  match o.op with
  | .makeSlice t n c => match o.dst with
    | some d => guardNew d s.used fx (opMake P t (s.geto n) (s.geto c) d K)
    | none => False
  | .buildSlice t len parts => match o.dst with
    | some d => guardNew d s.used fx (opBuildSlice md P t len parts.toList s.geto s.blk fx d K)
    | none => False
  | .build t parts => opBuild P t parts.toList s.geto s.blk K
  | .slice t x lo hi mx => opSlice P t (s.geto x) (lo.map s.geto) (hi.map s.geto) (mx.map s.geto) s.blk K
  | .convert a b x => match o.dst with
    | some d => opConvert P a b (s.geto x) s.blk d s.used fx K
    | none => False
  | .call c => match c.callee with
    | .builtin .append => match c.args.toList, c.argTypes.toList with
      | [x, y], [t, tx] => match srcKind P tx with
        | true => match o.dst with
          | some d => guardNew d s.used fx (opAppend P t (s.geto x) (s.geto y) s.blk fx d K)
          | none => False
        | false => False
      | _, _ => False
    | .builtin .copy => match c.args.toList, c.argTypes.toList with
      | [x, y], [t, _] => opCopy P t (s.geto x) (s.geto y) s.blk K
      | _, _ => False
    | .builtin .max => match c.args.toList with
      | [x, y] => match s.geto x, s.geto y with
        | .pure (.val (.int k n)), .pure (.val (.int k' m)) => match kEq k k' with
          | true => K (.pure (.val (.int k (max n m)))) []
          | false => False
        | _, _ => False
      | _ => False
    | .builtin .min => match c.args.toList with
      | [x, y] => match s.geto x, s.geto y with
        | .pure (.val (.int k n)), .pure (.val (.int k' m)) => match kEq k k' with
          | true => K (.pure (.val (.int k (min n m)))) []
          | false => False
        | _, _ => False
      | _ => False
    | _ => False
  | _ => False
end Go.Avc
