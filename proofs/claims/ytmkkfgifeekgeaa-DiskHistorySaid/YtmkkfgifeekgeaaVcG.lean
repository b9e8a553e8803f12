/- Addresses, parts of values, arithmetic, comparisons, lengths: what they do, and that the model does so. Conditions: none. -/
import Derived.Test.YtmkkfgifeekgeaaVcF
namespace Go.Avc
open Go.RowKit

def fieldOf (P : Program) (t : TypeId) (f : Nat) : Option Field := match P.underlying t with
  | some (.struct fs) => nth fs.toList f
  | _ => none

def opFieldAddr (P : Program) (t : TypeId) (x : AV) (f : Nat) (blk : Nat → Option Blk) (K : Kont) : Prop :=
  match fieldOf P t f with
  | none => False
  | some fd => match szOf P fd.type with
    | some (_ + 1) => match x with
      | .loc k i j => match blk k with
        | some _ => K (.loc k i (j + fd.offset)) []
        | none => False
      | .pure (.ptr cs) => K (.pure (.ptr (dropN fd.offset cs))) []
      | _ => False
    | _ => False

def opIndexAddr (P : Program) (t : TypeId) (x ix : AV) (blk : Nat → Option Blk) (K : Kont) : Prop :=
  match ix with
  | .pure (.val (.int _ n)) => match P.underlying t with
    | some (.slice e) => match szOf P e with
      | none => False
      | some z => match x with
        | .lsl k i m => match blk k with
          | some (.row sz _) => match Nat.beq z sz with
            | true => 0 ≤ n ∧ n < (m : Int) ∧ K (.loc k (i + n.toNat) 0) []
            | false => False
          | _ => False
        | .pure (.sl sz rows) => match Nat.beq z sz with
          | true => 0 ≤ n ∧ ∃ row, rows[n.toNat]? = some row ∧ K (.pure (.ptr row)) []
          | false => False
        | _ => False
    | some (.array len e) => match szOf P e with
      | none => False
      | some z => match x with
        | .loc k i j => match blk k with
          | some (.row sz _) => z = sz ∧ i = 0 ∧ j = 0 ∧ 0 ≤ n ∧ n < (len : Int) ∧ K (.loc k n.toNat 0) []
          | some (.box _) => 0 ≤ n ∧ n < (len : Int) ∧ K (.loc k i (j + n.toNat * z)) []
          | none => False
        | .pure (.ptr cs) => 0 ≤ n ∧ n < (len : Int) ∧ K (.pure (.ptr (cs.drop (n.toNat * z)))) []
        | _ => False
    | _ => False
  | _ => False

/-- A part of a value. -/
def opField (P : Program) (t : TypeId) (x : AV) (f : Nat) (K : Kont) : Prop :=
  match fieldOf P t f with
  | none => False
  | some fd => match x with
    | .agg cs => getCells P fd.type cs fd.offset K
    | .pure (.agg cs) => getCells P fd.type (pures cs) fd.offset K
    | _ => False

def opIndex (P : Program) (t : TypeId) (x ix : AV) (K : Kont) : Prop :=
  match ix with
  | .pure (.val (.int _ n)) => match P.underlying t with
    | some (.array len e) => match aggOf P e with
      | some false => szOf P e = some 1 ∧ 0 ≤ n ∧ n < (len : Int) ∧ ∃ v, (cellsOf x)[n.toNat]? = some v ∧ (∃ cs, x = .agg cs ∨ ∃ ps, x = .pure (.agg ps) ∧ cs = pures ps) ∧ K v []
      | _ => False
    | some .string => match x with
      | .pure (.val (.string b)) => 0 ≤ n ∧ ∃ c, b.data[n.toNat]? = some c ∧ K (.pure (.val (.int .u8 (c.toNat : Int)))) []
      | _ => False
    | _ => False
  | _ => False

def kEq (a b : IntKind) : Bool := match a with
  | .i8 => (match b with | .i8 => true | _ => false)
  | .i16 => (match b with | .i16 => true | _ => false)
  | .i32 => (match b with | .i32 => true | _ => false)
  | .i64 => (match b with | .i64 => true | _ => false)
  | .u8 => (match b with | .u8 => true | _ => false)
  | .u16 => (match b with | .u16 => true | _ => false)
  | .u32 => (match b with | .u32 => true | _ => false)
  | .u64 => (match b with | .u64 => true | _ => false)
theorem kEq_spec {a b : IntKind} (h : kEq a b = true) : a = b := by cases a <;> cases b <;> first | rfl | cases h

def intBin (op : BinOp) (k k' : IntKind) (a b : Int) (K : Value → Prop) : Prop :=
  match op with
  | .shl => 0 ≤ b ∧ ∃ r, k.wrap (a * 2 ^ (min b.toNat k.bits)) = r ∧ K (.int k r)
  | .shr => 0 ≤ b ∧ ∃ r, a.fdiv (2 ^ (min b.toNat k.bits)) = r ∧ K (.int k r)
  | op => match kEq k k' with
   | false => False
   | true => match op with
    | .add => ∃ r, k.wrap (a + b) = r ∧ K (.int k r)
    | .sub => ∃ r, k.wrap (a - b) = r ∧ K (.int k r)
    | .mul => ∃ r, k.wrap (a * b) = r ∧ K (.int k r)
    | .quo => b ≠ 0 ∧ ∃ r, k.wrap (a.tdiv b) = r ∧ K (.int k r)
    | .rem => b ≠ 0 ∧ ∃ r, a.tmod b = r ∧ K (.int k r)
    | .and => ∃ r, bits .and k a b = r ∧ K (.int k r)
    | .or => ∃ r, bits .or k a b = r ∧ K (.int k r)
    | .xor => ∃ r, bits .xor k a b = r ∧ K (.int k r)
    | .andNot => ∃ r, bits .andNot k a b = r ∧ K (.int k r)
    | .eql => K (.bool (decide (a = b)))
    | .neq => K (.bool (!decide (a = b)))
    | .lss => K (.bool (decide (a < b)))
    | .leq => K (.bool (decide (a ≤ b)))
    | .gtr => K (.bool (decide (b < a)))
    | .geq => K (.bool (decide (b ≤ a)))
    | _ => False

def strBin (op : BinOp) (a b : ByteArray) (K : Value → Prop) : Prop :=
  match op with
  | .eql => K (.bool (decide (a = b)))
  | .neq => K (.bool (!decide (a = b)))
  | .add => a.size + b.size ≤ 9223372036854775807 ∧ K (.string (a ++ b))
  | .lss => K (.bool (Op.bytesLess a.data.toList b.data.toList))
  | _ => False

def valsOf : List AV → Option (List Value)
  | [] => some []
  | .pure (.val v) :: l => (valsOf l).map (v :: ·)
  | _ :: _ => none

/-- Equality of values made of cells: the type's number is kept; the answer is what the model says. -/
def aggEq (P : Program) (t : TypeId) (xs ys : Array Value) (r : Bool) : Prop :=
  ∀ w, (eqGuard .eql t (.tmp 0) (.tmp 0) (.agg xs) (.agg ys)).run P w = .ok () w ∧ (Op.equal t (.agg xs) (.agg ys)).run P w = .ok r w

def isNil : AV → Bool
  | .pure (.val (.slice none 0 0)) => true
  | _ => false

def opBin (P : Program) (op : BinOp) (t : TypeId) (x y : AV) (K : Kont) : Prop :=
  match x, y with
  | .pure (.val (.int k a)), .pure (.val (.int k' b)) => intBin op k k' a b fun v => K (.pure (.val v)) []
  | .pure (.val (.string a)), .pure (.val (.string b)) => strBin op a b fun v => K (.pure (.val v)) []
  | .pure (.val (.bool a)), .pure (.val (.bool b)) => match P.underlying t with
    | some .bool => match op with
      | .eql => K (.pure (.val (.bool (a == b)))) []
      | .neq => K (.pure (.val (.bool (a != b)))) []
      | _ => False
    | _ => False
  | x, y => match isNil y with
    | true => match P.underlying t with
      | some (.slice _) => match x with
        | .pure (.sl _ rows) => match op with
          | .eql => ∀ r, (r = true → rows = []) → K (.pure (.val (.bool r))) []
          | .neq => ∀ r, (r = false → rows = []) → K (.pure (.val (.bool r))) []
          | _ => False
        | .pure (.val (.slice none _ _)) => match op with
          | .eql => K (.pure (.val (.bool true))) []
          | .neq => K (.pure (.val (.bool false))) []
          | _ => False
        | .lsl _ _ (_ + 1) => False
        | _ => False
      | _ => False
    | false => match valsOf (cellsOf x), valsOf (cellsOf y) with
      | some xs, some ys => match op with
        | .eql => ∃ r, aggEq P t xs.toArray ys.toArray r ∧ (∃ c, x = .agg c ∨ ∃ d, x = .pure (.agg d) ∧ c = pures d) ∧ (∃ c, y = .agg c ∨ ∃ d, y = .pure (.agg d) ∧ c = pures d) ∧ K (.pure (.val (.bool r))) []
        | .neq => ∃ r, aggEq P t xs.toArray ys.toArray r ∧ (∃ c, x = .agg c ∨ ∃ d, x = .pure (.agg d) ∧ c = pures d) ∧ (∃ c, y = .agg c ∨ ∃ d, y = .pure (.agg d) ∧ c = pures d) ∧ K (.pure (.val (.bool !r))) []
        | _ => False
      | _, _ => False

def opUn (op : UnOp) (x : AV) (K : Kont) : Prop :=
  match x with
  | .pure (.val (.bool b)) => match op with
    | .not => K (.pure (.val (.bool !b))) []
    | _ => False
  | .pure (.val (.int k n)) => match op with
    | .neg => ∃ r, k.wrap (0 - n) = r ∧ K (.pure (.val (.int k r))) []
    | .xor => ∃ r, bits .xor k (if k.signed then -1 else k.max) n = r ∧ K (.pure (.val (.int k r))) []
    | _ => False
  | _ => False


def opPick (c a b : AV) (K : Kont) : Prop :=
  match c with
  | .pure (.val (.bool t)) => bsel t (force a K) (force b K)
  | _ => False

def opExtract (x : AV) (i : Nat) (K : Kont) : Prop :=
  match x with
  | .tup cs => match nth cs i with
    | some v => K v []
    | none => False
  | .pure (.tup cs) => match nth cs i with
    | some p => K (.pure p) []
    | none => False
  | _ => False

def opLen (P : Program) (t : TypeId) (x : AV) (K : Kont) : Prop :=
  match P.underlying t with
  | some (.slice _) => match x with
    | .lsl _ _ n => K (.int n) []
    | .pure (.sl _ rows) => K (.int rows.length) []
    | .pure (.val (.slice _ n _)) => K (.int n) []
    | _ => False
  | some .string => match x with
    | .pure (.val (.string b)) => K (.int b.size) []
    | _ => False
  | some (.array n _) => K (.int n) []
  | _ => False

/-- 'len' of a live slice: its key is live. -/
def lenLiveB (x : AV) (blk : Nat → Option Blk) : Bool := match x with
  | .lsl k _ _ => (blk k).isSome
  | _ => true
def lenLive (x : AV) (blk : Nat → Option Blk) : Prop := lenLiveB x blk = true

section
variable {Γ : Ctx} {s : St} {tm : Array Value} {w : World} {β : BM} {P : Program} {K : Kont}

theorem add_add (a : Addr) (i j : Nat) : (a.add i).add j = a.add (i + j) := by
  unfold Addr.add
  by_cases hi : i = 0 <;> by_cases hj : j = 0 <;> simp [hi, hj, Nat.add_assoc]

theorem PR.ptr_drop {A : Nat → Prop} {cs : List PV} {a : Addr} (h : PR w A (.ptr cs) (.pointer (some a))) (o : Nat) : PR w A (.ptr (cs.drop o)) (.pointer (some (a.add o))) := by
  cases h with
  | ptr _ _ us hb hr hp =>
    refine .ptr _ _ (fun j => us (o + j)) (fun hn => ?_) (fun j p hj => ?_) (fun j p hj => ?_)
    · rw [block_add]
      rw [List.length_drop] at hn
      exact hb (by omega)
    · rw [List.getElem?_drop] at hj
      rw [add_add]
      exact hr _ p hj
    · rw [List.getElem?_drop] at hj
      exact hp _ p hj

theorem fieldOf_some {t : TypeId} {f : Nat} {fd : Field} (h : fieldOf P t f = some fd) : ∃ fs, P.underlying t = some (.struct fs) ∧ fs[f]? = some fd := by
  unfold fieldOf at h
  split at h
  · rename_i fs hfs
    rw [nth_eq, Array.getElem?_toList] at h
    exact ⟨fs, hfs, h⟩
  · cases h

theorem run_fieldAt {t : TypeId} {f : Nat} {fd : Field} (h : fieldOf P t f = some fd) {n : Nat} (hn : szOf P fd.type = some (n + 1)) (a : Addr) : (Instr.fieldAt t (.pointer (some a)) f).run P w = .ok (.pointer (some (a.add fd.offset))) w := by
  obtain ⟨fs, h1, h2⟩ := fieldOf_some h
  simp [Instr.fieldAt, run_underlying h1, h2, Instr.sureAddr, fieldPlace, run_sizeOf hn]

theorem fieldAddr_sound (h : Rl Γ s tm w β) {t : TypeId} {x : AV} {u : Value} {f : Nat} (hx : AR w (Av Γ.X β) β x u) (hkx : ∀ k ∈ x.keys, k ∈ s.used) (hK : opFieldAddr P t x f s.blk K) : Out Γ s tm K ((Instr.fieldAt t u f).run P w) := by
  unfold opFieldAddr at hK
  split at hK
  · exact hK.elim
  rename_i fd hfd
  split at hK
  case h_2 => exact hK.elim
  rename_i n hn
  split at hK
  · rename_i k i j
    split at hK
    · rename_i b hs
      obtain ⟨bi, hβ, _⟩ := h.live hs
      obtain rfl := hx.loc_inv hβ
      refine Out.same h hK (run_fieldAt hfd hn _) ?_ hkx
      rw [Addr.add_lit, Nat.add_assoc]
      exact .loc _ _ _ _ hβ
    · exact hK.elim
  · rename_i cs
    cases hx with
    | pure _ _ hp =>
      have hp' := hp
      cases hp with
      | ptr _ a us hb hr hp =>
        refine Out.same h hK (run_fieldAt hfd hn _) ?_ (by simp [AV.keys])
        rw [dropN_eq]
        exact .pure _ _ (hp'.ptr_drop _)
  · exact hK.elim

theorem PR.ptr_of_row {A : Nat → Prop} {sz : Nat} {rows : List (List PV)} {u : Value} (h : PR w A (.sl sz rows) u) {i : Nat} {row : List PV} (hi : rows[i]? = some row) :
    ∃ a cap, u = .slice (some a) rows.length cap ∧ PR w A (.ptr row) (.pointer (some (a.add (i * sz)))) := by
  cases h with
  | slnil => simp at hi
  | sl _ _ a cap us hc hm hsz hb hl hr hp =>
    refine ⟨a, cap, rfl, .ptr _ _ (us i) (fun _ => ?_) (fun j p hj => ?_) fun j p hj => hp i row j p hi hj⟩
    · rw [block_add]
      exact hb (by have := (List.getElem?_eq_some_iff.1 hi).1; omega)
    · rw [add_add]
      exact hr i row j p hi hj

theorem indexAddr_sound (h : Rl Γ s tm w β) {t : TypeId} {x ix : AV} {u ui : Value} (hx : AR w (Av Γ.X β) β x u) (hi : AR w (Av Γ.X β) β ix ui) (hkx : ∀ k ∈ x.keys, k ∈ s.used) (hK : opIndexAddr P t x ix s.blk K) :
    Out Γ s tm K ((Instr.indexAt t u ui).run P w) := by
  unfold opIndexAddr at hK
  split at hK
  case h_2 => exact hK.elim
  rename_i ik n
  cases hi with
  | pure _ _ hip =>
  cases hip with
  | val _ =>
  split at hK
  · rename_i e ht
    split at hK
    · exact hK.elim
    rename_i z hz
    split at hK
    · rename_i k i m
      split at hK
      · rename_i sz rows hs
        split at hK
        case h_2 => exact hK.elim
        rename_i hz1
        obtain rfl := Nat.eq_of_beq_eq_true hz1
        obtain ⟨h0, hlt, hK⟩ := hK
        obtain ⟨bi, hβ, hb⟩ := h.live hs
        have hbz := hb.1
        cases hx with
        | lsl _ _ _ bi' cap hb' hv hn hc hil hm =>
          rw [hβ] at hb'; cases hb'
          refine Out.same h hK (u := .pointer (some ⟨bi.b, (i + n.toNat) * bi.sz + 0, none⟩)) ?_ ?_ hkx
          · simp only [Instr.indexAt, asIntOf, Sem.run_bind, Sem.run_pure, Result.andThen_ok, run_underlying ht, if_pos (And.intro h0 hlt), run_sizeOf hz, Addr.add_lit, hbz]
            rw [Nat.add_mul, Nat.add_zero]
          · exact .loc _ _ _ _ hβ
        | lslV => simp at hlt; omega
        | lslDead _ _ _ _ hd => rw [hβ] at hd; cases hd
      · exact hK.elim
    · rename_i sz rows
      split at hK
      case h_2 => exact hK.elim
      rename_i hz1
      obtain rfl := Nat.eq_of_beq_eq_true hz1
      obtain ⟨h0, row, hrow, hK⟩ := hK
      cases hx with
      | pure _ _ hp =>
      obtain ⟨a, cap, rfl, hp'⟩ := hp.ptr_of_row hrow
      have hlt : n < (rows.length : Int) := by have := (List.getElem?_eq_some_iff.1 hrow).1; omega
      refine Out.same h hK ?_ (.pure _ _ hp') (by simp [AV.keys])
      simp only [Instr.indexAt, asIntOf, Sem.run_bind, Sem.run_pure, Result.andThen_ok, run_underlying ht, if_pos (And.intro h0 hlt), run_sizeOf hz]
    · exact hK.elim
  · rename_i len e ht
    split at hK
    · exact hK.elim
    rename_i z hz
    split at hK
    · rename_i k i j
      split at hK
      · rename_i sz rows hs
        obtain ⟨rfl, rfl, rfl, h0, hlt, hK⟩ := hK
        obtain ⟨bi, hβ, hb⟩ := h.live hs
        have hbz := hb.1
        obtain rfl := hx.loc_inv hβ
        refine Out.same h hK (u := .pointer (some ⟨bi.b, n.toNat * bi.sz + 0, none⟩)) ?_ (.loc _ _ _ _ hβ) hkx
        simp only [Instr.indexAt, asIntOf, Sem.run_bind, Sem.run_pure, Result.andThen_ok, run_underlying ht, Instr.sureAddr, if_pos (And.intro h0 hlt), run_sizeOf hz, Addr.add_lit, hbz]
        simp
      · rename_i cells hs
        obtain ⟨h0, hlt, hK⟩ := hK
        obtain ⟨bi, hβ, hb⟩ := h.live hs
        obtain rfl := hx.loc_inv hβ
        refine Out.same h hK (u := .pointer (some ⟨bi.b, i * bi.sz + (j + n.toNat * z), none⟩)) ?_ (.loc _ _ _ _ hβ) hkx
        simp only [Instr.indexAt, asIntOf, Sem.run_bind, Sem.run_pure, Result.andThen_ok, run_underlying ht, Instr.sureAddr, if_pos (And.intro h0 hlt), run_sizeOf hz, Addr.add_lit, Nat.add_assoc]
      · exact hK.elim
    · rename_i cs
      obtain ⟨h0, hlt, hK⟩ := hK
      cases hx with
      | pure _ _ hp =>
      have hp' := hp
      cases hp with
      | ptr _ a us hb hr hp =>
      refine Out.same h hK ?_ (.pure _ _ (hp'.ptr_drop _)) (by simp [AV.keys])
      simp only [Instr.indexAt, asIntOf, Sem.run_bind, Sem.run_pure, Result.andThen_ok, run_underlying ht, Instr.sureAddr, if_pos (And.intro h0 hlt), run_sizeOf hz]
    · exact hK.elim
  · exact hK.elim

theorem part_sound (h : Rl Γ s tm w β) {t : TypeId} {cells : List AV} {vs : Array Value} {j : Nat} (hl : vs.size = cells.length) (hc : ∀ (j : Nat) (p : AV), cells[j]? = some p → AR w (Av Γ.X β) β p (vs.getD j undef) ∧ ∀ k ∈ p.keys, k ∈ s.used)
    (hK : getCells P t cells j K) : Out Γ s tm K ((part t vs j).run P w) := by
  unfold getCells at hK
  simp only [forceC_eq] at hK
  split at hK
  · rename_i ha
    split at hK
    · rename_i n hn
      split at hK
      · rename_i cs hcs
        obtain ⟨h1, rfl⟩ := takeN_eq _ _ _ hcs
        rw [dropN_eq] at h1 hK
        rw [List.length_drop] at h1
        refine Out.same h hK (u := .agg (vs.extract j (j + n))) ?_ ?_ ?_
        · simp [part, aggOf_some ha, run_sizeOf hn]
        · refine .agg _ _ (by simp; omega) fun i p hp => ?_
          have hi : i < n := by have := (List.getElem?_eq_some_iff.1 hp).1; simp at this; omega
          rw [List.getElem?_take, if_pos hi, List.getElem?_drop] at hp
          have := (hc _ p hp).1
          have hjl : j + i < vs.size := by have := (List.getElem?_eq_some_iff.1 hp).1; omega
          have e : (vs.extract j (j + n)).getD i undef = vs.getD (j + i) undef := by
            rw [Array.getD_eq_getD_getElem?, Array.getD_eq_getD_getElem?, Array.getElem?_extract, if_pos (by omega)]
          rw [e]
          exact this
        · intro k hk
          simp only [AV.keys] at hk
          obtain ⟨a, ha', hka⟩ := AV.mem_keysL.1 hk
          have ha'' : a ∈ cells := List.mem_of_mem_drop (List.mem_of_mem_take ha')
          obtain ⟨i, hi, hia⟩ := List.getElem_of_mem ha''
          exact (hc i a (by rw [List.getElem?_eq_getElem hi, hia])).2 k hka
      · exact hK.elim
    · exact hK.elim
  · rename_i ha
    split at hK
    · rename_i v hv
      rw [nth_eq] at hv
      obtain ⟨h1, h2⟩ := hc j v hv
      have hj : j < vs.size := by have := (List.getElem?_eq_some_iff.1 hv).1; omega
      refine Out.same h hK (u := vs.getD j undef) ?_ h1 h2
      simp [part, aggOf_some ha, hj]
    · exact hK.elim
  · exact hK.elim

theorem field_sound (h : Rl Γ s tm w β) {t : TypeId} {x : AV} {u : Value} {f : Nat} (hx : AR w (Av Γ.X β) β x u) (hkx : ∀ k ∈ x.keys, k ∈ s.used) (hK : opField P t x f K) : Out Γ s tm K ((Instr.field t u f).run P w) := by
  unfold opField at hK
  split at hK
  · exact hK.elim
  rename_i fd hfd
  obtain ⟨fs, h1, h2⟩ := fieldOf_some hfd
  split at hK
  · rename_i cs
    cases hx with
    | agg _ vs hl hp =>
      have := part_sound h (j := fd.offset) hl (fun j p hj => ⟨hp j p hj, fun k hk => hkx k (by simp only [AV.keys]; exact AV.mem_keysL.2 ⟨p, List.mem_of_getElem? hj, hk⟩)⟩) hK
      simpa [Instr.field, run_underlying h1, h2, asAgg] using this
  · rename_i cs
    cases hx with
    | pure _ _ hp =>
    cases hp with
    | agg _ vs hl hp =>
      have := part_sound h (j := fd.offset) (cells := pures cs) (vs := vs) (by simp [pures, hl]) (fun j p hj => by
        obtain ⟨q, hq, rfl⟩ := pures_get hj
        exact ⟨.pure _ _ (hp j q hq), by simp [AV.keys]⟩) hK
      simpa [Instr.field, run_underlying h1, h2, asAgg] using this
  · exact hK.elim

theorem index_sound (h : Rl Γ s tm w β) {t : TypeId} {x ix : AV} {u ui : Value} (hx : AR w (Av Γ.X β) β x u) (hi : AR w (Av Γ.X β) β ix ui) (hkx : ∀ k ∈ x.keys, k ∈ s.used) (hK : opIndex P t x ix K) :
    Out Γ s tm K ((Instr.index t u ui).run P w) := by
  unfold opIndex at hK
  split at hK
  case h_2 => exact hK.elim
  rename_i ik n
  cases hi with
  | pure _ _ hip =>
  cases hip with
  | val _ =>
  split at hK
  · rename_i len e ht
    split at hK
    case h_2 => exact hK.elim
    rename_i ha
    obtain ⟨hz, h0, hlt, v, hv, ⟨cs, hcs⟩, hK⟩ := hK
    have main : ∀ (cells : List AV) (vs : Array Value), cellsOf x = cells → u = .agg vs → vs.size = cells.length → (∀ (j : Nat) (p : AV), cells[j]? = some p → AR w (Av Γ.X β) β p (vs.getD j undef)) → Out Γ s tm K ((Instr.index t u (.int ik n)).run P w) := by
      rintro cells vs e1 rfl hl hp
      rw [e1] at hv
      have hj : n.toNat < vs.size := by have := (List.getElem?_eq_some_iff.1 hv).1; omega
      refine Out.same h hK (u := vs.getD n.toNat undef) ?_ (hp _ v hv) fun k hk => hkx k ?_
      · simp only [Instr.index, asIntOf, Sem.run_bind, Sem.run_pure, Result.andThen_ok, run_underlying ht, if_pos (And.intro h0 hlt), run_sizeOf hz]
        simp [part, aggOf_some ha, hj]
      · rw [← cellsOf_keys, e1]
        exact AV.mem_keysL.2 ⟨v, List.mem_of_getElem? hv, hk⟩
    rcases hcs with rfl | ⟨ps, rfl, rfl⟩
    · cases hx with
      | agg _ vs hl hp => exact main _ vs rfl rfl hl hp
    · cases hx with
      | pure _ _ hp =>
      cases hp with
      | agg _ vs hl hp =>
        exact main (pures ps) vs rfl rfl (by simp [pures, hl]) fun j p hj => by
          obtain ⟨q, hq, rfl⟩ := pures_get hj
          exact .pure _ _ (hp j q hq)
  · rename_i ht
    split at hK
    · rename_i b
      obtain ⟨h0, c, hc, hK⟩ := hK
      cases hx with
      | pure _ _ hp =>
      cases hp with
      | val _ =>
      refine Out.same h hK ?_ (.pure _ _ (.val _)) (by simp [AV.keys])
      have hsz : n.toNat < b.size := (Array.getElem?_eq_some_iff.1 hc).1
      have hget : b[n.toNat]? = some c := by
        rw [getElem?_pos b n.toNat hsz]
        have := (Array.getElem?_eq_some_iff.1 hc).2
        exact congrArg some this
      simp [Instr.index, asIntOf, run_underlying ht, h0, hget]
    · exact hK.elim
  · exact hK.elim
end
end Go.Avc
