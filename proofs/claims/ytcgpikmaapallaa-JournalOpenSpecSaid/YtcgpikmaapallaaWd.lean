/- Regions whose order of evaluation is open: run in the order of the text, with operations that may change places shown apart. Conditions: none. -/
import Derived.Test.YtcgpikmaapallaaWc
import Derived.OrdersIn
import Derived.ProofKit
import Derived.SizedLaws
import Derived.Carry
import Derived.KernelRfl
set_option linter.unusedSimpArgs false
set_option linter.unusedVariables false
set_option maxRecDepth 20000
set_option maxHeartbeats 4000000
namespace Go.Avc
open Go.RowKit
/-! ### What must come before what -/
def bnd : Ground → Bool
 | .textOnly _ => false
 | .gcOnly _ => false
 | _ => true
def binders (o : Oper) : List Nat := (o.after.toList.filter fun e => bnd e.ground).map (·.on)
def maskOf (acc : List Nat) (bs : List Nat) : Nat := bs.foldl (fun m b => m ||| 2 ^ b ||| (nth acc b).getD 0) 0
def ancGo : List Nat → List Oper → List Nat
 | acc, [] => acc
 | acc, o :: l => ancGo (acc ++ [maskOf acc (binders o)]) l
def ancs (ops : List Oper) : List Nat := ancGo [] ops
def anc (A : List Nat) (j i : Nat) : Bool := ((nth A j).getD 0).testBit i
inductive Anc (ops : List Oper) : Nat → Nat → Prop
 | one {j b : Nat} {o : Oper} (ho : ops[j]? = some o) (hb : b ∈ binders o) : Anc ops j b
 | step {j b i : Nat} {o : Oper} (ho : ops[j]? = some o) (hb : b ∈ binders o) (h : Anc ops b i) : Anc ops j i
theorem maskOf_spec {acc : List Nat} {i : Nat} : ∀ {bs : List Nat} {m : Nat}, (bs.foldl (fun m b => m ||| 2 ^ b ||| (nth acc b).getD 0) m).testBit i = true → m.testBit i = true ∨ ∃ b ∈ bs, i = b ∨ ((nth acc b).getD 0).testBit i = true
 | [], m, h => .inl h
 | b :: bs, m, h => by
   rcases maskOf_spec (bs := bs) h with h | ⟨c, hc, h⟩
   · simp only [Nat.testBit_or, Nat.testBit_two_pow, Bool.or_eq_true, decide_eq_true_eq] at h
     rcases h with (h | h) | h
     · exact .inl h
     · exact .inr ⟨b, List.mem_cons_self, .inl h.symm⟩
     · exact .inr ⟨b, List.mem_cons_self, .inr h⟩
   · exact .inr ⟨c, List.mem_cons_of_mem _ hc, h⟩
theorem ancGo_spec {ops : List Oper} : ∀ {l : List Oper} {pre : List Oper} {acc : List Nat}, ops = pre ++ l → acc.length = pre.length → (∀ b i, ((nth acc b).getD 0).testBit i = true → Anc ops b i) →
   ∀ b i, ((nth (ancGo acc l) b).getD 0).testBit i = true → Anc ops b i
 | [], pre, acc, _, _, h => h
 | o :: l, pre, acc, e, hl, h => by
   have ho : ops[pre.length]? = some o := by rw [e]; simp
   refine ancGo_spec (l := l) (pre := pre ++ [o]) (acc := acc ++ [maskOf acc (binders o)]) (by rw [e]; simp) (by simp [hl]) fun b i hb => ?_
   rw [nth_eq] at hb
   by_cases hlt : b < acc.length
   · rw [List.getElem?_append_left hlt, ← nth_eq] at hb
     exact h b i hb
   · by_cases heq : b = acc.length
     · subst heq
       rw [List.getElem?_append_right (Nat.le_refl _)] at hb
       simp only [Nat.sub_self, List.getElem?_cons_zero, Option.getD_some] at hb
       rw [hl]
       rcases maskOf_spec hb with hb | ⟨c, hc, hb⟩
       · simp at hb
       · rcases hb with rfl | hb
         · exact .one ho hc
         · exact .step ho hc (h c i hb)
     · rw [List.getElem?_eq_none (by simp; omega)] at hb
       simp at hb
theorem anc_spec {ops : List Oper} {j i : Nat} (h : anc (ancs ops) j i = true) : Anc ops j i :=
 ancGo_spec (pre := []) rfl rfl (fun b i hb => by simp [nth] at hb) j i h
def backB (j : Nat) : List Nat → Bool
 | [] => true
 | b :: l => bif Nat.blt b j then backB j l else false
def rowB (ops : Array Oper) (A : List Nat) (o : Oper) (j : Nat) : Nat → List Oper → Bool
 | _, [] => true
 | i, x :: l => bif Nat.blt i j then (bif (anc A j i || x.apart ops o) then rowB ops A o j (i + 1) l else false) else true
def allB (ops : Array Oper) (A : List Nat) (all : List Oper) : Nat → List Oper → Bool
 | _, [] => true
 | j, o :: l => bif (backB j (binders o) && rowB ops A o j 0 all) then allB ops A all (j + 1) l else false
def drawOK (ops : Array Oper) : Bool := allB ops (ancs ops.toList) ops.toList 0 ops.toList
theorem backB_spec {j : Nat} : ∀ {l : List Nat}, backB j l = true → ∀ b ∈ l, b < j
 | [], _, b, hb => by cases hb
 | c :: l, h, b, hb => by
   simp only [backB] at h
   cases hc : Nat.blt c j with
   | false => rw [hc] at h; cases h
   | true =>
     rw [hc] at h
     rcases List.mem_cons.1 hb with rfl | hb
     · simpa [Nat.blt_eq] using hc
     · exact backB_spec h b hb
theorem rowB_spec {ops : Array Oper} {A : List Nat} {o : Oper} {j : Nat} : ∀ {l : List Oper} {i : Nat}, rowB ops A o j i l = true → ∀ (y : Nat) (x : Oper), l[y]? = some x → i + y < j → anc A j (i + y) = true ∨ x.apart ops o = true
 | [], i, _, y, x, hy, _ => by simp at hy
 | z :: l, i, h, y, x, hy, hlt => by
   simp only [rowB] at h
   have hij : Nat.blt i j = true := by simp [Nat.blt_eq]; omega
   rw [hij] at h
   cases hc : (anc A j i || z.apart ops o) with
   | false => rw [hc] at h; cases h
   | true =>
     rw [hc] at h
     cases y with
     | zero =>
       simp only [List.getElem?_cons_zero, Option.some.injEq] at hy
       subst hy
       simpa using hc
     | succ y =>
       have := rowB_spec (l := l) (i := i + 1) h y x (by simpa using hy) (by omega)
       rw [show i + 1 + y = i + (y + 1) by omega] at this
       exact this
theorem allB_spec {ops : Array Oper} {A : List Nat} {all : List Oper} : ∀ {l : List Oper} {j : Nat}, allB ops A all j l = true → ∀ (y : Nat) (o : Oper), l[y]? = some o →
   (∀ b ∈ binders o, b < j + y) ∧ ∀ (i : Nat) (x : Oper), all[i]? = some x → i < j + y → anc A (j + y) i = true ∨ x.apart ops o = true
 | [], j, _, y, o, hy => by simp at hy
 | z :: l, j, h, y, o, hy => by
   simp only [allB] at h
   cases hc : (backB j (binders z) && rowB ops A z j 0 all) with
   | false => rw [hc] at h; cases h
   | true =>
     rw [hc] at h
     simp only [Bool.and_eq_true] at hc
     cases y with
     | zero =>
       simp only [List.getElem?_cons_zero, Option.some.injEq] at hy
       subst hy
       refine ⟨fun b hb => backB_spec hc.1 b hb, fun i x hx hlt => ?_⟩
       have := rowB_spec hc.2 i x hx (by omega)
       simpa using this
     | succ y =>
       have := allB_spec (l := l) (j := j + 1) h y o (by simpa using hy)
       rw [show j + 1 + y = j + (y + 1) by omega] at this
       exact this
theorem drawOK_spec {ops : Array Oper} (h : drawOK ops = true) {j : Nat} {o : Oper} (ho : ops.toList[j]? = some o) :
   (∀ b ∈ binders o, b < j) ∧ ∀ (i : Nat) (x : Oper), ops.toList[i]? = some x → i < j → anc (ancs ops.toList) j i = true ∨ x.apart ops o = true := by
 have := allB_spec h j o ho
 rw [Nat.zero_add] at this
 exact this
theorem binds_any (e : Edge) : Region.binds .any e = bnd e.ground := by
 unfold Region.binds bnd
 cases e.ground <;> rfl
/-! ### Conditions -/
def keysOf (get : Operand → AV) : List Operand → List Nat
 | [] => []
 | x :: l => (get x).keys ++ keysOf get l
def actKeys : List BAct → Option (List Nat)
 | [] => some []
 | .set k _ :: l => match actKeys l with
   | some r => some (k :: r)
   | none => none
 | .new k _ :: l => match actKeys l with
   | some r => some (k :: r)
   | none => none
 | .kill k :: l => match actKeys l with
   | some r => some (k :: r)
   | none => none
 | .frz _ :: _ => none
structure Rc where
 i : Nat
 ks : List Nat
 wk : List Nat
def nilB : List Nat → Bool
 | [] => true
 | _ => false
def pairInd (A : List Nat) (j : Nat) (ks wk : List Nat) (r : Rc) : Bool := bif (nilB wk && nilB r.wk) then true else bif anc A j r.i then true else (bif disj wk r.ks then disj r.wk ks else false)
def indAll (A : List Nat) (j : Nat) (ks wk : List Nat) : List Rc → Bool
 | [] => true
 | r :: l => bif pairInd A j ks wk r then indAll A j ks wk l else false
def forceL : List Nat → (List Nat → Prop) → Prop
 | [], C => C []
 | k :: l, C => forceL l fun l' => C (k :: l')
theorem forceL_eq : ∀ (l : List Nat) (C : List Nat → Prop), forceL l C = C l
 | [], _ => rfl
 | _ :: l, C => by simp only [forceL]; rw [forceL_eq l]
def dstL : Option Tmp → List Nat
 | none => []
 | some d => [d]
def isMv (o : Oper) : Bool := match o.op with
 | .move _ => true
 | .assign _ => true
 | _ => false
def keysM (s : St) (o : Oper) : List Nat := match isMv o with
 | true => []
 | false => keysOf s.geto o.op.operands.toList
def dNext (A : List Nat) (i : Nat) (recs : List Rc) (s : St) (o : Oper) (v : AV) (acts : List BAct) (ih : Nat → List Rc → St → (St → Prop) → Prop) (K : St → Prop) : Prop :=
 match actKeys acts with
 | none => False
 | some wk => forceL wk fun wk => forceL (wk ++ dstL o.dst ++ keysM s o) fun ks => match indAll A i ks wk recs with
   | true => actsC acts s fun s' => putC s' o.dst v fun s'' => ih (i + 1) (⟨i, ks, wk⟩ :: recs) s'' K
   | false => False
def undOf : AV → Bool
 | .pure (.val (.tuple a)) => match a.toList with
   | [] => true
   | _ => false
 | _ => false
theorem undOf_spec {v : AV} (h : undOf v = true) : v = .pure (.val (.tuple #[])) := by
 unfold undOf at h
 split at h
 · rename_i a
   split at h
   · rename_i ha
     have : a = #[] := Array.toList_inj.1 (by simpa using ha)
     rw [this]
   · cases h
 · cases h
def gV (v : Value) : Prop := (∃ b, v = .bool b) ∨ v = .tuple #[]
def gB (v : Value) (want : Bool) : Bool := match v with
 | .bool b => b == want
 | _ => false
def boolOf : AV → Option Bool
 | .pure (.val (.bool b)) => some b
 | _ => none
theorem boolOf_spec {v : AV} {b : Bool} (h : boolOf v = some b) : v = .pure (.val (.bool b)) := by
 unfold boolOf at h
 split at h
 · cases h; rfl
 · cases h
/-! ### Calls with blocks, and calls that panic, where the order is open -/
def nev : AV := .pure (.par 0 [])
theorem nev_not {w : World} {A : Nat → Prop} {β : BM} {v : Value} (h : AR w A β nev v) : False := by
 cases h with
 | pure _ _ hp => cases hp with
   | par _ _ _ _ hsz => exact absurd hsz (Nat.lt_irrefl 0)
def gdOK (keys : List Nat) (dst : Option Tmp) (s0 : St) : List (Nat × Nat) → Bool
 | [] => true
 | (k, ck) :: l => bif (match s0.blk k with
     | some _ => !(freshIn ck keys)
     | none => match dst with
       | some d => Nat.beq ck d
       | none => false) then gdOK keys dst s0 l else false
def callGD (P : Program) (f : FuncId) (args : List AV) (s : St) (dst : Option Tmp) (fx : List Nat) (K : Kont) : Prop :=
 ∃ (M : List (Nat × Nat)) (args0 : List AV) (B0 : List (Nat × Option Blk)) (U0 gfx : List Nat) (r : Nat) (s1 : St), GSpec P f args0.length ⟨numE 0 args0, B0, U0⟩ gfx r s1 ∧ ArgsOK args (AV.renL (sig M) args0) ∧
   blkEqs s (sig M) ⟨numE 0 args0, B0, U0⟩ M ∧ match useB s fx M ⟨numE 0 args0, B0, U0⟩ gfx s1 with
     | true => match gdOK (AV.keysL args) dst ⟨numE 0 args0, B0, U0⟩ M with
       | true => K (resG r (sig M) s1) (gActs (sig M) ⟨numE 0 args0, B0, U0⟩ s1 M)
       | false => False
     | false => False
def callXD (P : Program) (v : Value) (f : FuncId) (args : List AV) (s : St) (dst : Option Tmp) (fx : List Nat) (K : Kont) : Prop :=
 ∃ (M : List (Nat × Nat)) (args0 : List AV) (B0 : List (Nat × Option Blk)) (U0 : List Nat), XSpec P f args0.length ⟨numE 0 args0, B0, U0⟩ v ∧ ArgsOK args (AV.renL (sig M) args0) ∧
   blkEqs s (sig M) ⟨numE 0 args0, B0, U0⟩ M ∧ match useB s fx M ⟨numE 0 args0, B0, U0⟩ [] ⟨[], [], []⟩ with
     | true => match gdOK (AV.keysL args) dst ⟨numE 0 args0, B0, U0⟩ M with
       | true => K nev (gActs (sig M) ⟨numE 0 args0, B0, U0⟩ ⟨[], [], []⟩ M)
       | false => False
     | false => False
def opVCg (g : Option (Option Value)) (more : St → Oper → Kont → Prop) (P : Program) (fx : List Nat) (s : St) (o : Oper) (K : Kont) : Prop :=
 match g with
 | none => opVC true more P fx s o K
 | some pv => match o.op with
   | .call c => match c.callee with
     | .value f => match fnOf (s.geto f) with
       | some (f, fs, cs) => match pv with
         | none => callVC true P f (fs ++ c.args.toList.map s.geto ++ cs) s.blk fx K ∨ callGD P f (fs ++ c.args.toList.map s.geto ++ cs) s o.dst fx K
         | some v => callVC true P f (fs ++ c.args.toList.map s.geto ++ cs) s.blk fx K ∨ callGD P f (fs ++ c.args.toList.map s.geto ++ cs) s o.dst fx K ∨ callXD P v f (fs ++ c.args.toList.map s.geto ++ cs) s o.dst fx K
       | none => opVC true more P fx s o K
     | _ => opVC true more P fx s o K
   | _ => opVC true more P fx s o K
section
variable {P : Program} {s s' : St}
theorem pairsB_frame {keys : List Nat} {dst : Option Tmp} {used used' fx gfx : List Nat} {s0 s1 : St} (hu : ∀ d, dst = some d → freshIn d used = true → freshIn d used' = true) : ∀ {M : List (Nat × Nat)}, gdOK keys dst s0 M = true →
   pairsB used fx gfx s0 s1 M = true → pairsB used' fx gfx s0 s1 M = true
 | [], _, _ => rfl
 | (k, ck) :: l, hg, hp => by
   simp only [gdOK] at hg
   simp only [pairsB] at hp ⊢
   cases h1 : pairB used fx gfx s0 s1 k ck with
   | false => rw [h1] at hp; cases hp
   | true =>
     rw [h1] at hp
     have key : pairB used' fx gfx s0 s1 k ck = true ∧ gdOK keys dst s0 l = true := by
       unfold pairB at h1 ⊢
       cases hb : s0.blk k with
       | some b =>
         rw [hb] at h1 hg
         refine ⟨h1, ?_⟩
         simp only at hg
         cases hf : freshIn ck keys <;> rw [hf] at hg
         · simpa using hg
         · cases hg
       | none =>
         rw [hb] at h1 hg
         simp only at hg h1 ⊢
         cases hd : dst with
         | none => rw [hd] at hg; cases hg
         | some d =>
           rw [hd] at hg
           simp only [beq_eq_decide] at hg
           by_cases e : ck = d
           · subst e
             simp only [decide_true, cond_true] at hg
             refine ⟨?_, hg⟩
             cases hfr : freshIn ck used with
             | false => rw [hfr] at h1; cases h1
             | true =>
               rw [hfr] at h1
               rw [hu ck hd hfr]
               exact h1
           · simp [e] at hg
     rw [key.1]
     exact pairsB_frame hu key.2 hp
theorem blkEqs_frame {keys : List Nat} {dst : Option Tmp} {σ : Nat → Nat} {s0 : St} (hb : ∀ k ∈ keys, s'.blk k = s.blk k) : ∀ {M : List (Nat × Nat)}, gdOK keys dst s0 M = true → blkEqs s σ s0 M → blkEqs s' σ s0 M
 | [], _, _ => trivial
 | (k, ck) :: l, hg, he => by
   simp only [gdOK] at hg
   simp only [blkEqs] at he ⊢
   cases hk : s0.blk k with
   | none =>
     rw [hk] at he hg
     simp only at hg
     refine blkEqs_frame (dst := dst) hb ?_ he
     cases dst with
     | none => cases hg
     | some d =>
       simp only at hg
       cases hx : Nat.beq ck d <;> rw [hx] at hg
       · cases hg
       · exact hg
   | some b =>
     rw [hk] at he hg
     simp only at hg
     cases hf : freshIn ck keys with
     | true => rw [hf] at hg; cases hg
     | false =>
       rw [hf] at hg
       exact ⟨(hb ck (freshIn_not hf)).trans he.1, blkEqs_frame hb hg he.2⟩
theorem useB_frame {keys : List Nat} {dst : Option Tmp} {fx gfx : List Nat} {s0 s1 : St} {M : List (Nat × Nat)} (hu : ∀ d, dst = some d → freshIn d s.used = true → freshIn d s'.used = true) (hg : gdOK keys dst s0 M = true)
   (h : useB s fx M s0 gfx s1 = true) : useB s' fx M s0 gfx s1 = true := by
 unfold useB at h ⊢
 simp only [Bool.and_eq_true] at h ⊢
 exact ⟨h.1, pairsB_frame hu hg h.2⟩
theorem callGD_det {f : FuncId} {args : List AV} {dst : Option Tmp} {fx : List Nat} (hb : ∀ k ∈ AV.keysL args, s'.blk k = s.blk k) (hu : ∀ d, dst = some d → freshIn d s.used = true → freshIn d s'.used = true) :
   Det (callGD P f args s dst fx) (callGD P f args s' dst fx) := by
 rintro K ⟨M, args0, B0, U0, gfx, r, s1, h1, h2, h3, h⟩
 split at h
 case h_2 => exact h.elim
 rename_i hq
 split at h
 case h_2 => exact h.elim
 rename_i hg
 refine ⟨_, _, h, M, args0, B0, U0, gfx, r, s1, h1, h2, blkEqs_frame hb hg h3, ?_⟩
 rw [useB_frame hu hg hq]
 simp only [hg]
 exact ⟨trivial, trivial⟩
theorem callXD_det {v : Value} {f : FuncId} {args : List AV} {dst : Option Tmp} {fx : List Nat} (hb : ∀ k ∈ AV.keysL args, s'.blk k = s.blk k) (hu : ∀ d, dst = some d → freshIn d s.used = true → freshIn d s'.used = true) :
   Det (callXD P v f args s dst fx) (callXD P v f args s' dst fx) := by
 rintro K ⟨M, args0, B0, U0, h1, h2, h3, h⟩
 split at h
 case h_2 => exact h.elim
 rename_i hq
 split at h
 case h_2 => exact h.elim
 rename_i hg
 refine ⟨_, _, h, M, args0, B0, U0, h1, h2, blkEqs_frame hb hg h3, ?_⟩
 rw [useB_frame hu hg hq]
 simp only [hg]
 exact ⟨trivial, trivial⟩
theorem opVCg_det {g : Option (Option Value)} {more : St → Oper → Kont → Prop} (hm : DetM more) {fx : List Nat} {o : Oper} (ha : Agr s s' o) : Det (opVCg g more P fx s o) (opVCg g more P fx s' o) := by
 intro K h
 have old := fun h => opVC_det (P := P) (fx := fx) hm ha K h
 unfold opVCg at h ⊢
 split at h
 · exact old h
 rename_i pv
 split at h
 case h_2 => exact old h
 rename_i c hc
 split at h
 case h_2 => exact old h
 rename_i fo hfo
 have hg := ha.get
 have hb := ha.blk
 rw [hc] at hg hb
 have hmem : fo ∈ (Op.call c).operands := by simp [Op.operands, Call.operands, hfo]
 have hargm : ∀ x ∈ c.args.toList, x ∈ (Op.call c).operands := fun x hx => by simp only [Op.operands, Call.operands, hfo]; simp [Array.mem_toList_iff.1 hx]
 have e1 : s'.geto fo = s.geto fo := hg fo hmem
 have e2 : c.args.toList.map s'.geto = c.args.toList.map s.geto := List.map_congr_left fun x hx => hg x (hargm x hx)
 simp only [e1, e2]
 split at h
 case h_2 =>
   rename_i hno
   exact old h
 rename_i f fs cs hf
 have hbb : ∀ k ∈ AV.keysL (fs ++ c.args.toList.map s.geto ++ cs), s'.blk k = s.blk k := fun k hk => by
   obtain ⟨a, ha, hka⟩ := AV.mem_keysL.1 hk
   rcases List.mem_append.1 ha with ha | ha
   · rcases List.mem_append.1 ha with ha | ha
     · exact hb fo hmem k (fnOf_keys hf k (AV.mem_keysL.2 ⟨a, List.mem_append_left _ ha, hka⟩))
     · obtain ⟨x, hx, rfl⟩ := List.mem_map.1 ha
       exact hb x (hargm x hx) k hka
   · exact hb fo hmem k (fnOf_keys hf k (AV.mem_keysL.2 ⟨a, List.mem_append_right _ ha, hka⟩))
 split at h
 · rcases h with h | h
   · obtain ⟨v, acts, h1, h2⟩ := callVC_det hbb K h
     exact ⟨v, acts, h1, .inl h2⟩
   · obtain ⟨v, acts, h1, h2⟩ := callGD_det hbb ha.fresh K h
     exact ⟨v, acts, h1, .inr h2⟩
 · rcases h with h | h | h
   · obtain ⟨v, acts, h1, h2⟩ := callVC_det hbb K h
     exact ⟨v, acts, h1, .inl h2⟩
   · obtain ⟨v, acts, h1, h2⟩ := callGD_det hbb ha.fresh K h
     exact ⟨v, acts, h1, .inr (.inl h2)⟩
   · obtain ⟨v, acts, h1, h2⟩ := callXD_det hbb ha.fresh K h
     exact ⟨v, acts, h1, .inr (.inr h2)⟩
end
theorem opVCg_sound {g : Option (Option Value)} {more : St → Oper → Kont → Prop} {Γ : Ctx} {F : Fence} {n : Nat} {s : St} {a : Act} {w : World} (hm : MoreOK more Γ) (hF : FOK F) (hR : R Γ s a w) {o : Oper} (ho : dstOk Γ.N o.dst = true) {K : Kont}
   (hK : opVCg g more Γ.P Γ.fx s o K) {next : Act → World → Prop} {Q : Exit → Act → World → Prop} (hk : ∀ v acts a' w', K v acts → R Γ ((s.acts acts).putD o.dst v) a' w' → next a' w')
   (hpan : ∀ v, g = some (some v) → ∀ s' a' w', R Γ s' a' w' → Q (.panic [{ v := v, recovered := false }]) a' w') : o.wpIn F n Γ.P a w next Q := by
 unfold opVCg at hK
 split at hK
 · exact op_sound hm hF hR ho hK hk
 rename_i pv
 split at hK
 case h_2 => exact op_sound hm hF hR ho hK hk
 rename_i c hc
 split at hK
 case h_2 => exact op_sound hm hF hR ho hK hk
 rename_i fo hfo
 split at hK
 case h_2 => exact op_sound hm hF hR ho hK hk
 rename_i f fs cs hf
 have c1 : callVC true Γ.P f (fs ++ c.args.toList.map s.geto ++ cs) s.blk Γ.fx K → o.wpIn F n Γ.P a w next Q := fun h => by
   refine op_sound (md := true) hm hF hR ho ?_ hk
   unfold opVC
   simp only [hc, hfo, hf]
   exact h
 have c2 : callGD Γ.P f (fs ++ c.args.toList.map s.geto ++ cs) s o.dst Γ.fx K → o.wpIn F n Γ.P a w next Q := fun h => by
   refine op_sound (md := false) hm hF hR ho ?_ hk
   unfold opVC
   simp only [hc, hfo, hf]
   obtain ⟨M, args0, B0, U0, gfx, r, s1, h1, h2, h3, h⟩ := h
   refine .inr ⟨M, args0, B0, U0, gfx, r, s1, h1, h2, h3, ?_⟩
   split at h
   case h_2 => exact h.elim
   rename_i hq
   split at h
   case h_2 => exact h.elim
   rw [hq]
   exact h
 split at hK
 · rcases hK with h | h
   · exact c1 h
   · exact c2 h
 · rename_i v
   rcases hK with h | h | h
   · exact c1 h
   · exact c2 h
   · refine callX_sound (v := v) (D := fun _ => True) hF hR hc hfo hf ?_ fun s' a' w' _ hR' => hpan v rfl s' a' w' hR'
     obtain ⟨M, args0, B0, U0, h1, h2, h3, h⟩ := h
     refine ⟨M, args0, B0, U0, h1, h2, h3, ?_⟩
     split at h
     case h_2 => exact h.elim
     rename_i hq
     rw [hq]
     trivial
def dStep (gm : Option (Option Value)) (more : St → Oper → Kont → Prop) (P : Program) (N : Nat) (fx : List Nat) (ops : List Oper) (A : List Nat) (o : Oper) (ih : Nat → List Rc → St → (St → Prop) → Prop) (i : Nat) (recs : List Rc) (s : St) (K : St → Prop) : Prop :=
 match dstOk N o.dst with
 | false => False
 | true => match o.guard with
   | none => opVCg gm more P fx s o fun v acts => dNext A i recs s o v acts ih K
   | some (j, want) => match (nth ops j).bind (·.dst) with
     | none => False
     | some d => match Nat.blt d N with
       | false => False
       | true => match boolOf (s.get d) with
         | some b => match s with
           | ⟨e, bl, u⟩ => bsel b
             (match want with
               | true => opVCg gm more P fx ⟨(d, .pure (.val (.bool true))) :: e, bl, u⟩ o fun v acts => dNext A i recs ⟨(d, .pure (.val (.bool true))) :: e, bl, u⟩ o v acts ih K
               | false => putC ⟨(d, .pure (.val (.bool true))) :: e, bl, u⟩ o.dst und fun s'' => ih (i + 1) recs s'' K)
             (match want with
               | true => putC ⟨(d, .pure (.val (.bool false))) :: e, bl, u⟩ o.dst und fun s'' => ih (i + 1) recs s'' K
               | false => opVCg gm more P fx ⟨(d, .pure (.val (.bool false))) :: e, bl, u⟩ o fun v acts => dNext A i recs ⟨(d, .pure (.val (.bool false))) :: e, bl, u⟩ o v acts ih K)
         | none => match undOf (s.get d) with
           | true => putC s o.dst und fun s'' => ih (i + 1) recs s'' K
           | false => False
noncomputable def opsD (gm : Option (Option Value)) (more : St → Oper → Kont → Prop) (P : Program) (N : Nat) (fx : List Nat) (ops : List Oper) (A : List Nat) (l : List Oper) : Nat → List Rc → St → (St → Prop) → Prop :=
 List.rec (motive := fun _ => Nat → List Rc → St → (St → Prop) → Prop) (fun _ _ s K => K s) (fun o _ ih i recs s K => dStep gm more P N fx ops A o ih i recs s K) l
/-! ### States alike -/
structure SEq (s t : St) : Prop where
 get : ∀ i, s.get i = t.get i
 blk : ∀ k, s.blk k = t.blk k
 used : ∀ k, k ∈ s.used ↔ k ∈ t.used
theorem SEq.refl (s : St) : SEq s s := ⟨fun _ => rfl, fun _ => rfl, fun _ => Iff.rfl⟩
theorem SEq.symm {s t : St} (h : SEq s t) : SEq t s := ⟨fun i => (h.get i).symm, fun k => (h.blk k).symm, fun k => (h.used k).symm⟩
theorem SEq.trans {s t u : St} (h : SEq s t) (k : SEq t u) : SEq s u := ⟨fun i => (h.get i).trans (k.get i), fun i => (h.blk i).trans (k.blk i), fun i => (h.used i).trans (k.used i)⟩
theorem SEq.geto {s t : St} (h : SEq s t) (x : Operand) : s.geto x = t.geto x := by
 cases x <;> simp only [St.geto, h.get]
theorem Rl.seq {Γ : Ctx} {s s' : St} {tm : Array Value} {w : World} {β : BM} (h : Rl Γ s tm w β) (e : SEq s' s) : Rl Γ s' tm w β :=
 { h with
   slots := fun t => by rw [e.get]; exact h.slots t
   blks := fun k => by rw [e.blk]; exact h.blks k
   used1 := fun t k hk => by rw [e.get] at hk; exact (e.used k).2 (h.used1 t k hk)
   used2 := fun k b hb => by rw [e.blk] at hb; exact ⟨(e.used k).2 (h.used2 k b hb).1, fun x hx => (e.used x).2 ((h.used2 k b hb).2 x hx)⟩ }
theorem R.seq {Γ : Ctx} {s s' : St} {a : Act} {w : World} (h : R Γ s a w) (e : SEq s' s) : R Γ s' a w := by
 obtain ⟨X, β, h, g⟩ := h
 exact ⟨X, β, h.seq e, g.sub, g.old, fun hon i t hi => g.gh hon i t (by rw [← e.get]; exact hi), g.lone, g.marks⟩
def ActsOK (acts : List BAct) (wk : List Nat) (s : St) : Prop := (∀ i, (s.acts acts).get i = s.get i) ∧ (∀ k, k ∉ wk → (s.acts acts).blk k = s.blk k) ∧
   (∀ t : St, ∀ k ∈ wk, (s.acts acts).blk k = (t.acts acts).blk k) ∧ (∃ ns : List Nat, (∀ k ∈ ns, k ∈ wk) ∧ ∀ t : St, ∀ k, k ∈ (t.acts acts).used ↔ k ∈ ns ∨ k ∈ t.used)
theorem acts_spec : ∀ {acts : List BAct} {wk : List Nat}, actKeys acts = some wk → ∀ s : St, ActsOK acts wk s
 | [], wk, h, s => by
   simp only [actKeys, Option.some.injEq] at h
   subst h
   exact ⟨fun _ => rfl, fun _ _ => rfl, fun _ k hk => (by cases hk), [], fun k hk => (by cases hk), fun t k => (by simp [St.acts])⟩
 | b :: l, wk, h, s => by
   have key : ∀ (k : Nat) (ob : Option Blk) (nw : List Nat), (∀ t : St, ∀ i, (t.act b).get i = t.get i) → (∀ t : St, ∀ j, (t.act b).blk j = if k = j then ob else t.blk j) → (∀ t : St, ∀ j, j ∈ (t.act b).used ↔ j ∈ nw ∨ j ∈ t.used) → (∀ j ∈ nw, j = k) →
       (match actKeys l with | some r => some (k :: r) | none => none) = some wk → ActsOK (b :: l) wk s := fun k ob nw h1 h2 h3 h4 h5 => by
     cases hl : actKeys l with
     | none => rw [hl] at h5; cases h5
     | some r =>
       rw [hl] at h5
       simp only [Option.some.injEq] at h5
       subst h5
       have ih := fun s => acts_spec hl s
       obtain ⟨ns, hns, hu⟩ := (ih s).2.2.2
       have e : ∀ t : St, t.acts (b :: l) = (t.act b).acts l := fun _ => rfl
       refine ⟨fun i => ?_, fun j hj => ?_, fun t j hj => ?_, nw ++ ns, fun j hj => ?_, fun t j => ?_⟩
       · rw [e, (ih _).1, h1]
       · simp only [List.mem_cons, not_or] at hj
         rw [e, (ih _).2.1 j hj.2, h2, if_neg (Ne.symm hj.1)]
       · rw [e, e]
         by_cases hr : j ∈ r
         · exact (ih _).2.2.1 _ j hr
         · rw [(ih _).2.1 j hr, (ih _).2.1 j hr, h2, h2]
           rcases List.mem_cons.1 hj with rfl | hj
           · simp
           · exact absurd hj hr
       · rcases List.mem_append.1 hj with hj | hj
         · exact List.mem_cons.2 (.inl (h4 j hj))
         · exact List.mem_cons_of_mem _ (hns j hj)
       · rw [e, hu, h3, List.mem_append]
         constructor
         · rintro (h | h | h)
           · exact .inl (.inr h)
           · exact .inl (.inl h)
           · exact .inr h
         · rintro ((h | h) | h)
           · exact .inr (.inl h)
           · exact .inl h
           · exact .inr (.inr h)
   cases b with
   | set k x => exact key k (some x) [] (fun _ _ => rfl) (fun t j => St.blk_set t k x j) (fun t j => by simp [St.act, St.set]) (fun j hj => (by cases hj)) h
   | new k x => exact key k (some x) [k] (fun _ _ => rfl) (fun t j => St.blk_new t k x j) (fun t j => by simp [St.act, St.new]) (fun j hj => by simpa using hj) h
   | kill k => exact key k none [] (fun _ _ => rfl) (fun t j => St.blk_kill t k j) (fun t j => by simp [St.act, St.kill]) (fun j hj => (by cases hj)) h
   | frz k => cases h
/-! ### Steps -/
structure Stp where
 i : Nat
 o : Oper
 dec : Option (AV × List BAct)
 ks : List Nat
 wk : List Nat
def Stp.next (x : Stp) (s : St) : St := match x.dec with
 | none => s.putD x.o.dst und
 | some (v, acts) => (s.acts acts).putD x.o.dst v
structure StpOK (gm : Option (Option Value)) (more : St → Oper → Kont → Prop) (P : Program) (N : Nat) (fx : List Nat) (ops : Array Oper) (s : St) (x : Stp) : Prop where
 dst : dstOk N x.o.dst = true
 guard : (x.o.guard = none ∧ x.dec.isSome = true) ∨ ∃ j want d b, x.o.guard = some (j, want) ∧ (nth ops.toList j).bind (·.dst) = some d ∧ Nat.blt d N = true ∧ s.get d = .pure (.val b) ∧ gV b ∧ x.dec.isSome = gB b want
 run : ∀ v acts, x.dec = some (v, acts) → opVCg gm more P fx s x.o (fun v' a' => v' = v ∧ a' = acts) ∧ actKeys acts = some x.wk ∧ (isMv x.o = false → ∀ y ∈ x.o.op.operands, ∀ k ∈ (s.geto y).keys, k ∈ x.ks) ∧ (∀ k ∈ x.wk, k ∈ x.ks) ∧ (∀ d, x.o.dst = some d → d ∈ x.ks)
 skip : x.dec = none → x.wk = []
structure SInd (ops : Array Oper) (x y : Stp) : Prop where
 apart : x.o.apart ops y.o = true
 k1 : ∀ k ∈ x.wk, k ∉ y.ks
 k2 : ∀ k ∈ y.wk, k ∉ x.ks
section
variable {gm : Option (Option Value)} {more : St → Oper → Kont → Prop} {P : Program} {N : Nat} {fx : List Nat} {ops : Array Oper}
theorem putD_get (s : St) (d : Option Tmp) (v : AV) (i : Nat) : (s.putD d v).get i = if d = some i then v else s.get i := by
 cases d with
 | none => simp [St.putD]
 | some d => simp [St.putD, St.get_put]
theorem putD_blk (s : St) (d : Option Tmp) (v : AV) (k : Nat) : (s.putD d v).blk k = s.blk k := by cases d <;> rfl
theorem putD_used (s : St) (d : Option Tmp) (v : AV) : (s.putD d v).used = s.used := by cases d <;> rfl
theorem next_spec (x : Stp) (hk : ∀ v acts, x.dec = some (v, acts) → actKeys acts = some x.wk) (hs : x.dec = none → x.wk = []) : ∃ (v : AV) (f : Nat → Option Blk) (ns : List Nat), (∀ k ∈ ns, k ∈ x.wk) ∧ ∀ s : St,
   (∀ i, (x.next s).get i = if x.o.dst = some i then v else s.get i) ∧ (∀ k, (x.next s).blk k = if k ∈ x.wk then f k else s.blk k) ∧ ∀ k, k ∈ (x.next s).used ↔ k ∈ ns ∨ k ∈ s.used := by
 cases hd : x.dec with
 | none =>
   refine ⟨und, fun _ => none, [], fun k hk => (by cases hk), fun s => ⟨fun i => ?_, fun k => ?_, fun k => ?_⟩⟩
   · simp only [Stp.next, hd, putD_get]
   · simp only [Stp.next, hd, putD_blk, hs hd]; simp
   · simp only [Stp.next, hd, putD_used]; simp
 | some p =>
   obtain ⟨v, acts⟩ := p
   have ha := fun s => acts_spec (hk v acts hd) s
   let s0 : St := ⟨[], [], []⟩
   obtain ⟨ns, hns, hu⟩ := (ha s0).2.2.2
   refine ⟨v, (s0.acts acts).blk, ns, hns, fun s => ⟨fun i => ?_, fun k => ?_, fun k => ?_⟩⟩
   · simp only [Stp.next, hd, putD_get, (ha s).1]
   · simp only [Stp.next, hd, putD_blk]
     split
     · rename_i hm; exact (ha s).2.2.1 s0 k hm
     · rename_i hm; exact (ha s).2.1 k hm
   · simp only [Stp.next, hd, putD_used]
     exact hu s k
theorem StpOK.keys {s : St} {x : Stp} (h : StpOK gm more P N fx ops s x) : ∀ v acts, x.dec = some (v, acts) → actKeys acts = some x.wk := fun v acts e => (h.run v acts e).2.1
theorem SEq.next {s t : St} (h : SEq s t) {x : Stp} (hk : ∀ v acts, x.dec = some (v, acts) → actKeys acts = some x.wk) (hs : x.dec = none → x.wk = []) : SEq (x.next s) (x.next t) := by
 obtain ⟨v, f, ns, _, hn⟩ := next_spec x hk hs
 refine ⟨fun i => ?_, fun k => ?_, fun k => ?_⟩
 · rw [(hn s).1, (hn t).1, h.get]
 · rw [(hn s).2.1, (hn t).2.1, h.blk]
 · rw [(hn s).2.2, (hn t).2.2, h.used]
theorem freshIn_iff {d : Nat} : ∀ {l : List Nat}, freshIn d l = true ↔ d ∉ l := by
 intro l
 constructor
 · exact freshIn_spec
 · intro h
   cases hf : freshIn d l with
   | true => rfl
   | false => exact absurd (freshIn_not hf) h
theorem StpOK.move {s t : St} {x : Stp} (hm : DetM more) (h : StpOK gm more P N fx ops s x) (hget : ∀ d, d ∈ x.o.looksAt ops → t.get d = s.get d) (hblk : ∀ k ∈ x.ks, t.blk k = s.blk k) (hu : ∀ d, x.o.dst = some d → d ∉ s.used → d ∈ x.ks → d ∉ t.used) : StpOK gm more P N fx ops t x := by
 have hgeto : ∀ y ∈ x.o.op.operands, t.geto y = s.geto y := fun y hy => by
   cases y with
   | tmp d => exact hget d (List.mem_append_left _ (List.mem_filterMap.2 ⟨.tmp d, by simpa using hy, rfl⟩))
   | _ => rfl
 refine ⟨h.dst, ?_, fun v acts e => ?_, h.skip⟩
 · rcases h.guard with h1 | ⟨j, want, d, b, h1, h2, h3, h4, h5⟩
   · exact .inl h1
   · refine .inr ⟨j, want, d, b, h1, h2, h3, ?_, h5⟩
     rw [hget d ?_]
     · exact h4
     · refine List.mem_append_right _ ?_
       rw [h1]
       have h2' : (ops[j]?).bind (·.dst) = some d := by rw [nth_eq] at h2; simpa using h2
       simp [h2']
 · obtain ⟨h1, h2, h3, h4, h5⟩ := h.run v acts e
   have h6 : opVCg gm more P fx t x.o (fun v' a' => v' = v ∧ a' = acts) := by
     cases hmv : isMv x.o with
     | false =>
       have ha : Agr s t x.o := ⟨hgeto, fun y hy k hk => hblk k (h3 hmv y hy k hk), fun d hd hf => freshIn_iff.2 (hu d hd (freshIn_iff.1 hf) (h5 d hd))⟩
       obtain ⟨v', acts', ⟨rfl, rfl⟩, h6⟩ := opVCg_det (P := P) (fx := fx) hm ha _ h1
       exact h6
     | true =>
       obtain ⟨y, hy⟩ : ∃ y, x.o.op = .move y ∨ x.o.op = .assign y := by
         unfold isMv at hmv
         split at hmv
         · rename_i y hy; exact ⟨y, .inl hy⟩
         · rename_i y hy; exact ⟨y, .inr hy⟩
         · cases hmv
       have hyo : y ∈ x.o.op.operands := by rcases hy with hy | hy <;> simp [hy, Op.operands]
       have hf : ∀ (u : St) (K : Kont), opVCg gm more P fx u x.o K = force (u.geto y) K := fun u K => by
         unfold opVCg
         rcases hy with hy | hy <;> cases gm <;> simp only [hy, opVC]
       rw [hf] at h1 ⊢
       rw [hgeto y hyo]
       exact h1
   exact ⟨h6, h2, fun hmv y hy k hk => h3 hmv y hy k (by rw [← hgeto y hy]; exact hk), h4, h5⟩
theorem StpOK.congr {s t : St} {x : Stp} (hm : DetM more) (h : StpOK gm more P N fx ops s x) (e : SEq s t) : StpOK gm more P N fx ops t x :=
 h.move hm (fun d _ => (e.get d).symm) (fun k _ => (e.blk k).symm) fun d _ hd _ hm => hd ((e.used d).2 hm)
theorem StpOK.swap {s : St} {x y : Stp} (hm : DetM more) (hx : StpOK gm more P N fx ops s x) (hy : StpOK gm more P N fx ops (x.next s) y) (hi : SInd ops x y) :
   StpOK gm more P N fx ops s y ∧ StpOK gm more P N fx ops (y.next s) x ∧ SEq (y.next (x.next s)) (x.next (y.next s)) := by
 obtain ⟨a1, a2, a3⟩ := Oper.apart_spec hi.apart
 obtain ⟨vx, fX, nx, hnx, hnX⟩ := next_spec x hx.keys hx.skip
 obtain ⟨vy, fY, ny, hny, hnY⟩ := next_spec y hy.keys hy.skip
 have wx : ∀ k ∈ x.wk, k ∈ x.ks := fun k hk => by
   cases hd : x.dec with
   | none => rw [hx.skip hd] at hk; cases hk
   | some p => exact (hx.run p.1 p.2 (by rw [hd])).2.2.2.1 k hk
 have wy : ∀ k ∈ y.wk, k ∈ y.ks := fun k hk => by
   cases hd : y.dec with
   | none => rw [hy.skip hd] at hk; cases hk
   | some p => exact (hy.run p.1 p.2 (by rw [hd])).2.2.2.1 k hk
 refine ⟨hy.move hm (fun d hd => ?_) (fun k hk => ?_) (fun d hd hn _ => ?_), hx.move hm (fun d hd => ?_) (fun k hk => ?_) (fun d hd hn hdk => ?_), ⟨fun i => ?_, fun k => ?_, fun k => ?_⟩⟩
 · rw [(hnX s).1, if_neg (fun e => a1 d e hd)]
 · rw [(hnX s).2.1, if_neg (fun hk' => hi.k1 k hk' hk)]
 · intro hu
   exact hn ((hnX s).2.2 d |>.2 (.inr hu))
 · rw [(hnY s).1, if_neg (fun e => a3 d e hd)]
 · rw [(hnY s).2.1, if_neg (fun hk' => hi.k2 k hk' hk)]
 · rw [(hnY s).2.2 d]
   rintro (h | h)
   · exact hi.k2 d (hny d h) hdk
   · exact hn h
 · rw [(hnY _).1, (hnX s).1, (hnX _).1, (hnY s).1]
   by_cases e1 : y.o.dst = some i
   · by_cases e2 : x.o.dst = some i
     · exact absurd e1 (a2 i e2)
     · simp [e1, e2]
   · simp [e1]
 · rw [(hnY _).2.1, (hnX s).2.1, (hnX _).2.1, (hnY s).2.1]
   by_cases e1 : k ∈ y.wk
   · by_cases e2 : k ∈ x.wk
     · exact absurd (wy k e1) (hi.k1 k e2)
     · simp [e1, e2]
   · simp [e1]
 · rw [(hnY _).2.2, (hnX s).2.2, (hnX _).2.2, (hnY s).2.2]
   constructor
   · rintro (h | h | h)
     · exact .inr (.inl h)
     · exact .inl h
     · exact .inr (.inr h)
   · rintro (h | h | h)
     · exact .inr (.inl h)
     · exact .inl h
     · exact .inr (.inr h)
def TrOK (gm : Option (Option Value)) (more : St → Oper → Kont → Prop) (P : Program) (N : Nat) (fx : List Nat) (ops : Array Oper) : St → List Stp → Prop
 | _, [] => True
 | s, x :: l => StpOK gm more P N fx ops s x ∧ TrOK gm more P N fx ops (x.next s) l
def fin (s : St) : List Stp → St
 | [] => s
 | x :: l => fin (x.next s) l
theorem TrOK.congr (hm : DetM more) : ∀ {l : List Stp} {s t : St}, TrOK gm more P N fx ops s l → SEq s t → TrOK gm more P N fx ops t l ∧ SEq (fin s l) (fin t l)
 | [], s, t, _, e => ⟨trivial, e⟩
 | x :: l, s, t, h, e => by
   obtain ⟨h1, h2⟩ := h
   obtain ⟨g1, g2⟩ := TrOK.congr hm h2 (e.next h1.keys h1.skip)
   exact ⟨⟨h1.congr hm e, g1⟩, g2⟩
theorem TrOK.front (hm : DetM more) : ∀ {l1 : List Stp} {y : Stp} {l2 : List Stp} {s : St}, TrOK gm more P N fx ops s (l1 ++ y :: l2) → (∀ x ∈ l1, SInd ops x y) →
   TrOK gm more P N fx ops s (y :: (l1 ++ l2)) ∧ SEq (fin s (l1 ++ y :: l2)) (fin s (y :: (l1 ++ l2)))
 | [], y, l2, s, h, _ => ⟨h, SEq.refl _⟩
 | x :: l1, y, l2, s, h, hi => by
   obtain ⟨h1, h2⟩ := h
   obtain ⟨⟨g1, g2⟩, g3⟩ := TrOK.front hm h2 fun z hz => hi z (List.mem_cons_of_mem _ hz)
   obtain ⟨k1, k2, k3⟩ := h1.swap hm g1 (hi x List.mem_cons_self)
   obtain ⟨m1, m2⟩ := g2.congr hm k3
   exact ⟨⟨k1, k2, m1⟩, g3.trans m2⟩
end
end Go.Avc
/- Regions whose order of evaluation is open: the conditions in the order of the text suffice for every order. Conditions: none. -/
namespace Go.Avc
open Go.RowKit
theorem byteRows_rfl (bs : List UInt8) : (bs.map fun b => [PV.val (.int .u8 (b.toNat : Int))]) = byteRows bs := rfl
def PairOK (A : List Nat) (x y : Stp) : Prop := anc A y.i x.i = true ∨ ((∀ k ∈ x.wk, k ∉ y.ks) ∧ ∀ k ∈ y.wk, k ∉ x.ks)
theorem pairInd_spec {A : List Nat} {j : Nat} {ks wk : List Nat} {r : Rc} (h : pairInd A j ks wk r = true) : anc A j r.i = true ∨ ((∀ k ∈ r.wk, k ∉ ks) ∧ ∀ k ∈ wk, k ∉ r.ks) := by
 unfold pairInd at h
 cases h1 : (nilB wk && nilB r.wk) with
 | true =>
   simp only [Bool.and_eq_true] at h1
   have nil : ∀ {l : List Nat}, nilB l = true → l = [] := fun {l} h => by cases l <;> first | rfl | cases h
   right
   rw [nil h1.1, nil h1.2]
   exact ⟨fun k hk => (by cases hk), fun k hk => (by cases hk)⟩
 | false =>
   rw [h1] at h
   cases h2 : anc A j r.i with
   | true => exact .inl rfl
   | false =>
     rw [h2] at h
     cases h3 : disj wk r.ks with
     | false => rw [h3] at h; cases h
     | true =>
       rw [h3] at h
       exact .inr ⟨disj_spec (by simpa using h), disj_spec h3⟩
theorem indAll_spec {A : List Nat} {j : Nat} {ks wk : List Nat} : ∀ {l : List Rc}, indAll A j ks wk l = true → ∀ r ∈ l, anc A j r.i = true ∨ ((∀ k ∈ r.wk, k ∉ ks) ∧ ∀ k ∈ wk, k ∉ r.ks)
 | [], _, r, hr => by cases hr
 | c :: l, h, r, hr => by
   simp only [indAll] at h
   cases hc : pairInd A j ks wk c with
   | false => rw [hc] at h; cases h
   | true =>
     rw [hc] at h
     rcases List.mem_cons.1 hr with rfl | hr
     · exact pairInd_spec hc
     · exact indAll_spec h r hr
theorem keysOf_mem {get : Operand → AV} : ∀ {l : List Operand} {k : Nat}, k ∈ keysOf get l ↔ ∃ x ∈ l, k ∈ (get x).keys
 | [], k => by simp [keysOf]
 | x :: l, k => by simp [keysOf, keysOf_mem (l := l)]
def Traced (gm : Option (Option Value)) (more : St → Oper → Kont → Prop) (P : Program) (N : Nat) (fx : List Nat) (ops : Array Oper) (A : List Nat) (K : St → Prop) (l : List Oper) (i : Nat) (recs : List Rc) (s : St) : Prop :=
 ∃ T : List Stp, T.length = l.length ∧ (∀ (y : Nat) (x : Stp), T[y]? = some x → x.i = i + y ∧ l[y]? = some x.o) ∧ TrOK gm more P N fx ops s T ∧ (∃ s', K s' ∧ SEq s' (fin s T)) ∧
     (∀ x ∈ T, ∀ r ∈ recs, anc A x.i r.i = true ∨ ((∀ k ∈ r.wk, k ∉ x.ks) ∧ ∀ k ∈ x.wk, k ∉ r.ks)) ∧ T.Pairwise (PairOK A)
section
variable {gm : Option (Option Value)} {more : St → Oper → Kont → Prop} {P : Program} {N : Nat} {fx : List Nat} {ops : Array Oper}
theorem opsD_trace (hm : DetM more) {A : List Nat} {K : St → Prop} : ∀ {l : List Oper} {i : Nat} {recs : List Rc} {s : St}, opsD gm more P N fx ops.toList A l i recs s K → Traced gm more P N fx ops A K l i recs s
 | [], i, recs, s, h => ⟨[], rfl, by simp, trivial, ⟨s, h, SEq.refl s⟩, fun x hx => (by cases hx), .nil⟩
 | o :: l, i, recs, s, h => by
   change dStep gm more P N fx ops.toList A o (opsD gm more P N fx ops.toList A l) i recs s K at h
   -- what comes of a step that is made
   have run : ∀ s : St, dstOk N o.dst = true → (o.guard = none ∨ ∃ j want d, o.guard = some (j, want) ∧ (nth ops.toList j).bind (·.dst) = some d ∧ Nat.blt d N = true ∧ s.get d = .pure (.val (.bool want))) →
       (opVCg gm more P fx s o fun v acts => dNext A i recs s o v acts (opsD gm more P N fx ops.toList A l) K) → Traced gm more P N fx ops A K (o :: l) i recs s := fun s hd hg hv => by
     obtain ⟨v, acts, hk, hv⟩ := opVCg_det (P := P) (fx := fx) (o := o) hm (s := s) (s' := s) ⟨fun _ _ => rfl, fun _ _ _ _ => rfl, fun _ _ h => h⟩ _ hv
     unfold dNext at hk
     split at hk
     · exact hk.elim
     rename_i wk hwk
     rw [forceL_eq, forceL_eq] at hk
     split at hk
     case h_2 => exact hk.elim
     rename_i hind
     rw [actsC_eq, putC_eq] at hk
     obtain ⟨T, t1, t2, t3, t4, t5, t6⟩ := opsD_trace hm hk
     let x : Stp := ⟨i, o, some (v, acts), wk ++ dstL o.dst ++ keysM s o, wk⟩
     refine ⟨x :: T, by simp [t1], fun y z hz => ?_, ⟨⟨hd, ?_, fun v' acts' e => ?_, fun e => (by cases e)⟩, t3⟩, t4, fun y hy r hr => ?_, List.pairwise_cons.2 ⟨fun y hy => ?_, t6⟩⟩
     · cases y with
       | zero => simp only [List.getElem?_cons_zero, Option.some.injEq] at hz; subst hz; exact ⟨rfl, rfl⟩
       | succ y =>
         obtain ⟨g1, g2⟩ := t2 y z (by simpa using hz)
         exact ⟨by omega, by simpa using g2⟩
     · rcases hg with hg | ⟨j, want, d, h1, h2, h3, h4⟩
       · exact .inl ⟨hg, rfl⟩
       · exact .inr ⟨j, want, d, .bool want, h1, h2, h3, h4, .inl ⟨_, rfl⟩, by simp [x, gB]⟩
     · simp only [x, Option.some.injEq, Prod.mk.injEq] at e
       obtain ⟨rfl, rfl⟩ := e
       refine ⟨hv, hwk, fun hmv y hy k hk => ?_, fun k hk => ?_, fun d hd => ?_⟩
       · refine List.mem_append_right _ ?_
         have e : keysM s o = keysOf s.geto o.op.operands.toList := by unfold keysM; rw [show isMv o = false from hmv]
         rw [e]
         exact keysOf_mem.2 ⟨y, by simpa using hy, hk⟩
       · exact List.mem_append_left _ (List.mem_append_left _ hk)
       · refine List.mem_append_left _ (List.mem_append_right _ ?_)
         have : o.dst = some d := hd
         rw [this]; simp [dstL]
     · rcases List.mem_cons.1 hy with rfl | hy
       · exact indAll_spec hind r hr
       · exact t5 y hy r (List.mem_cons_of_mem _ hr)
     · exact t5 y hy ⟨i, _, wk⟩ List.mem_cons_self
   -- of a step that is passed over
   have skip : ∀ s : St, dstOk N o.dst = true → (∃ j want d b, o.guard = some (j, want) ∧ (nth ops.toList j).bind (·.dst) = some d ∧ Nat.blt d N = true ∧ s.get d = .pure (.val b) ∧ gV b ∧ gB b want = false) →
       (putC s o.dst und fun s'' => opsD gm more P N fx ops.toList A l (i + 1) recs s'' K) → Traced gm more P N fx ops A K (o :: l) i recs s := fun s hd hg hv => by
     rw [putC_eq] at hv
     obtain ⟨T, t1, t2, t3, t4, t5, t6⟩ := opsD_trace hm hv
     let x : Stp := ⟨i, o, none, [], []⟩
     refine ⟨x :: T, by simp [t1], fun y z hz => ?_, ⟨⟨hd, ?_, fun v' acts' e => (by cases e), fun e => rfl⟩, t3⟩, t4, fun y hy r hr => ?_, List.pairwise_cons.2 ⟨fun y hy => ?_, t6⟩⟩
     · cases y with
       | zero => simp only [List.getElem?_cons_zero, Option.some.injEq] at hz; subst hz; exact ⟨rfl, rfl⟩
       | succ y =>
         obtain ⟨g1, g2⟩ := t2 y z (by simpa using hz)
         exact ⟨by omega, by simpa using g2⟩
     · obtain ⟨j, want, d, b, h1, h2, h3, h4, h6, h5⟩ := hg
       exact .inr ⟨j, want, d, b, h1, h2, h3, h4, h6, by simp [x, h5]⟩
     · rcases List.mem_cons.1 hy with rfl | hy
       · exact .inr ⟨fun k _ hk => (by cases hk), fun k hk => (by cases hk)⟩
       · exact t5 y hy r hr
     · exact .inr ⟨fun k hk => (by cases hk), fun k _ hk => (by cases hk)⟩
   unfold dStep at h
   split at h
   · exact h.elim
   rename_i hok
   split at h
   · rename_i hg
     exact run s hok (.inl hg) h
   · rename_i j want hg
     split at h
     · exact h.elim
     rename_i d hdst
     split at h
     · exact h.elim
     rename_i hdN
     split at h
     case h_2 =>
       split at h
       · rename_i hu
         exact skip s hok ⟨j, want, d, _, hg, hdst, hdN, undOf_spec hu, .inr rfl, rfl⟩ h
       · exact h.elim
     rename_i b hb
     have hb := boolOf_spec hb
     have hput : ∀ t : Bool, b = t → SEq (s.put d (.bool t)) s := fun t ht => ⟨fun i => by
       rw [St.get_put]
       by_cases e : d = i
       · subst e; rw [if_pos rfl, hb, ht]
       · rw [if_neg e], fun _ => rfl, fun _ => Iff.rfl⟩
     have conv : ∀ t : Bool, b = t → Traced gm more P N fx ops A K (o :: l) i recs (s.put d (.bool t)) → Traced gm more P N fx ops A K (o :: l) i recs s := by
       rintro t ht ⟨T, t1, t2, t3, ⟨s', t4, t4'⟩, t5, t6⟩
       obtain ⟨g1, g2⟩ := t3.congr hm (hput t ht)
       exact ⟨T, t1, t2, g1, ⟨s', t4, t4'.trans g2⟩, t5, t6⟩
     have hgp : ∀ t : Bool, (s.put d (.bool t)).get d = .pure (.val (.bool t)) := fun t => by rw [St.get_put, if_pos rfl]
     have hcs : ∀ t : Bool, s.put d (.bool t) = ⟨(d, .pure (.val (.bool t))) :: s.env, s.blks, s.used⟩ := fun _ => rfl
     obtain ⟨e, bl, u⟩ := s
     rcases bsel_elim h with ⟨e0, hv2⟩ | ⟨e0, hv2⟩
     · cases want with
       | true => exact conv true e0 (run _ hok (.inr ⟨j, true, d, hg, hdst, hdN, hgp true⟩) hv2)
       | false => exact conv true e0 (skip _ hok ⟨j, false, d, .bool true, hg, hdst, hdN, hgp true, .inl ⟨_, rfl⟩, rfl⟩ hv2)
     · cases want with
       | true => exact conv false e0 (skip _ hok ⟨j, true, d, .bool false, hg, hdst, hdN, hgp false, .inl ⟨_, rfl⟩, rfl⟩ hv2)
       | false => exact conv false e0 (run _ hok (.inr ⟨j, false, d, hg, hdst, hdN, hgp false⟩) hv2)
end
section
variable {gm : Option (Option Value)} {more : St → Oper → Kont → Prop} {Γ : Ctx} {F : Fence} {n : Nat} {ops : Array Oper} {Q : Exit → Act → World → Prop}
theorem step_sound (hok : MoreOK more Γ) (hF : FOK F) {x : Stp} {s : St} {a : Act} {w : World} (hR : R Γ s a w) (hx : StpOK gm more Γ.P Γ.N Γ.fx ops s x) (hi : ops[x.i]? = some x.o) {K : Act → World → Prop} (hK : ∀ a' w', R Γ (x.next s) a' w' → K a' w')
   (hpan : ∀ v, gm = some (some v) → ∀ s' a' w', R Γ s' a' w' → Q (.panic [{ v := v, recovered := false }]) a' w') : wpOpIn F n Γ.P ops Q x.i K a w := by
 have hR0 := hR
 obtain ⟨X, β, h, g⟩ := hR
 unfold wpOpIn
 rw [hi]
 have hw : Region.wanted x.o (yielded ops a.tmps) = x.dec.isSome := by
   rcases hx.guard with ⟨h1, h2⟩ | ⟨j, want, d, b, h1, h2, h3, h4, h6, h5⟩
   · rw [h2]; simp [Region.wanted, h1]
   · have hdlt : d < Γ.N := by simpa [Nat.blt_eq] using h3
     have hev : a.tmps.getD d undef = b := by
       have := h.slots d
       rw [h4] at this
       exact this.val_inv
     rcases h6 with ⟨b, rfl⟩ | rfl
     · have := wanted_of (a := a) (ops := ops.toList) h1 h2 (by rw [h.size]; exact hdlt) hev
       rw [h5]; simpa [gB] using this
     · have := wanted_und (a := a) (ops := ops.toList) h1 h2 (by rw [h.size]; exact hdlt) hev
       rw [h5]; simpa [gB] using this
 simp only [hw]
 cases hdec : x.dec with
 | none =>
   simp only [Option.isSome_none, Bool.false_eq_true, if_false]
   refine ⟨fun f _ => hF.fn f, hK _ _ ?_⟩
   simp only [Stp.next, hdec]
   exact R.putU h g hx.dst
 | some p =>
   obtain ⟨v, acts⟩ := p
   simp only [Option.isSome_some, if_true]
   obtain ⟨h1, _⟩ := hx.run v acts hdec
   refine opVCg_sound hok hF hR0 hx.dst h1 (fun v' acts' a' w' e hR' => hK _ _ ?_) hpan
   obtain ⟨rfl, rfl⟩ := e
   simp only [Stp.next, hdec]
   exact hR'
theorem anc_in {D : Array Bool} (hcl : ∀ (i : Nat) (o : Oper), ops.toList[i]? = some o → D.getD i true = true → ∀ b ∈ binders o, D.getD b true = true) {j i : Nat} (h : Anc ops.toList j i) :
   (∀ o, ops.toList[j]? = some o → ∀ b ∈ binders o, D.getD b true = true) → D.getD i true = true := by
 induction h with
 | one ho hb => exact fun hj => hj _ ho _ hb
 | step ho hb _ ih => exact fun hj => ih fun o' ho' => hcl _ o' ho' (hj _ ho _ hb)
theorem mem_ready {D : Array Bool} {i : Nat} : i ∈ Region.ready .any ops D ↔ ∃ o, ops[i]? = some o ∧ D.getD i true = false ∧ ∀ b ∈ binders o, D.getD b false = true := by
 unfold Region.ready
 simp only [List.mem_filter, List.mem_range, Bool.and_eq_true, Bool.not_eq_true']
 constructor
 · rintro ⟨h1, h2, h3⟩
   have ho : ops[i]? = some ops[i] := Array.getElem?_eq_getElem h1
   rw [ho] at h3
   simp only [Option.map_some, Option.getD_some, Array.all_eq_true', Bool.or_eq_true, Bool.not_eq_true'] at h3
   refine ⟨_, ho, h2, fun b hb => ?_⟩
   simp only [binders, List.mem_map, List.mem_filter, Array.mem_toList_iff] at hb
   obtain ⟨e, ⟨he, hbn⟩, rfl⟩ := hb
   rcases h3 e he with h | h
   · rw [binds_any, hbn] at h; cases h
   · exact h
 · rintro ⟨o, ho, h2, h3⟩
   refine ⟨(Array.getElem?_eq_some_iff.1 ho).1, h2, ?_⟩
   rw [ho]
   simp only [Option.map_some, Option.getD_some, Array.all_eq_true', Bool.or_eq_true, Bool.not_eq_true']
   intro e he
   cases hb : bnd e.ground with
   | false => exact .inl (by rw [binds_any]; exact hb)
   | true => exact .inr (h3 e.on (by simp only [binders, List.mem_map, List.mem_filter, Array.mem_toList_iff]; exact ⟨e, ⟨he, hb⟩, rfl⟩))
def Stp.stop (x : Stp) : Prop := ∃ d acts, x.o.dst = some d ∧ x.dec = some (nev, acts)
theorem Stp.stop_no {x : Stp} (h : x.stop) {s : St} {a : Act} {w : World} (hR : R Γ (x.next s) a w) : False := by
 obtain ⟨d, acts, h1, h2⟩ := h
 obtain ⟨X, β, hr, _⟩ := hR
 have := hr.slots d
 simp only [Stp.next, h2, h1, St.putD, St.get_put, if_true] at this
 exact nev_not this
theorem draw_any (hm : DetM more) (hok : MoreOK more Γ) (hF : FOK F) (hst : drawOK ops = true) {lim : Nat} (hpan : ∀ v, gm = some (some v) → ∀ s' a' w', R Γ s' a' w' → Q (.panic [{ v := v, recovered := false }]) a' w') : ∀ (fuel : Nat) (L : List Stp) (D : Array Bool) (s : St) (a : Act) (w : World), D.size = ops.size → L.length ≤ fuel → (∀ x ∈ L, ops[x.i]? = some x.o) →
   (∀ i, i < ops.size → (D.getD i true = false ↔ (∃ x ∈ L, x.i = i) ∨ lim ≤ i)) → (∀ x ∈ L, x.i < lim) → (∀ (i : Nat) (o : Oper), lim ≤ i → ops[i]? = some o → ∃ x ∈ L, x.stop ∧ x.i ∈ binders o) → L.Pairwise (fun x y => x.i < y.i) →
   (∀ (i : Nat) (o : Oper), ops.toList[i]? = some o → D.getD i true = true → ∀ b ∈ binders o, D.getD b true = true) → TrOK gm more Γ.P Γ.N Γ.fx ops s L → L.Pairwise (PairOK (ancs ops.toList)) → R Γ s a w →
   (∀ a' w', R Γ (fin s L) a' w' → Q .normal a' w') → wpAnyIn F n Γ.P .any ops Q fuel D a w
 | 0, L, D, s, a, w, hDs, hL, hops, hD, hlt, hlim, hsort, hcl, htr, hpw, hR, hQ => by
   have : L = [] := List.length_eq_zero_iff.1 (by omega)
   subst this
   refine ⟨?_, hQ a w hR⟩
   rw [List.eq_nil_iff_forall_not_mem]
   intro i hi
   obtain ⟨o, ho, h2, _⟩ := mem_ready.1 hi
   rcases (hD i (Array.getElem?_eq_some_iff.1 ho).1).1 h2 with ⟨x, hx, _⟩ | hle
   · cases hx
   · obtain ⟨x, hx, _⟩ := hlim i o hle ho
     cases hx
 | fuel + 1, L, D, s, a, w, hDs, hL, hops, hD, hlt, hlim, hsort, hcl, htr, hpw, hR, hQ => by
   have lt : ∀ {x : Stp}, x ∈ L → x.i < ops.size := fun hx => (Array.getElem?_eq_some_iff.1 (hops _ hx)).1
   have tf : ∀ {b : Nat}, D.getD b true = true → b < ops.size → D.getD b false = true := fun {b} h hb => by
     rw [Array.getD_eq_getD_getElem?, Array.getElem?_eq_getElem (by omega)] at h ⊢
     exact h
   have ft : ∀ {b : Nat}, D.getD b false = true → D.getD b true = true := fun {b} h => by
     rw [Array.getD_eq_getD_getElem?] at h ⊢
     cases hb : D[b]? with
     | none => rw [hb] at h; cases h
     | some x => rw [hb] at h; exact h
   refine ⟨fun hr => ?_, fun i hi => ?_⟩
   · cases L with
     | nil => exact hQ a w hR
     | cons x L =>
       have hx := hops x List.mem_cons_self
       have : x.i ∈ Region.ready .any ops D := by
         refine mem_ready.2 ⟨x.o, hx, (hD _ (lt List.mem_cons_self)).2 (.inl ⟨x, List.mem_cons_self, rfl⟩), fun b hb => ?_⟩
         have hbx := (drawOK_spec hst (by simpa using hx)).1 b hb
         have hbs : b < ops.size := Nat.lt_trans hbx (lt List.mem_cons_self)
         refine tf ?_ hbs
         cases hDb : D.getD b true with
         | true => rfl
         | false =>
           have hxl := hlt x List.mem_cons_self
           obtain ⟨y, hy, hyb⟩ := ((hD b hbs).1 hDb).resolve_right (by omega)
           rcases List.mem_cons.1 hy with rfl | hy
           · omega
           · have := (List.pairwise_cons.1 hsort).1 y hy
             omega
       rw [hr] at this
       cases this
   · obtain ⟨o, ho, h2, h3⟩ := mem_ready.1 hi
     have his := (Array.getElem?_eq_some_iff.1 ho).1
     obtain ⟨y, hy, rfl⟩ := ((hD i his).1 h2).resolve_right fun hle => by
       obtain ⟨x, hx, _, hxb⟩ := hlim i o hle ho
       have h4 := h3 x.i hxb
       have := ft h4
       rw [(hD x.i (lt hx)).2 (.inl ⟨x, hx, rfl⟩)] at this
       cases this
     obtain ⟨l1, l2, rfl⟩ := List.append_of_mem hy
     have hyo := hops y hy
     have hoo : y.o = o := by rw [ho] at hyo; exact (Option.some.inj hyo).symm
     have hsi : ∀ x ∈ l1, SInd ops x y := fun x hx => by
       have hxl : x ∈ l1 ++ y :: l2 := List.mem_append_left _ hx
       have hlt : x.i < y.i := (List.pairwise_append.1 hsort).2.2 x hx y List.mem_cons_self
       have hna : anc (ancs ops.toList) y.i x.i = true → False := fun ha => by
         have hin := anc_in hcl (anc_spec ha) fun o' ho' b hb => by
           have : o' = o := by
             rw [Array.getElem?_toList] at ho'
             rw [ho] at ho'
             exact (Option.some.inj ho').symm
           subst this
           exact ft (h3 b hb)
         have := (hD x.i (lt hxl)).2 (.inl ⟨x, hxl, rfl⟩)
         rw [hin] at this
         cases this
       have hp := (List.pairwise_append.1 hpw).2.2 x hx y List.mem_cons_self
       have hk := hp.resolve_left hna
       have hap := ((drawOK_spec hst (by simpa using hyo)).2 x.i x.o (by simpa using hops x hxl) hlt).resolve_left hna
       exact ⟨hap, hk.1, hk.2⟩
     obtain ⟨⟨g1, g2⟩, g3⟩ := htr.front hm hsi
     refine step_sound hok hF hR g1 hyo (fun a' w' hR' => ?_) hpan
     by_cases hys : y.stop
     · exact (Stp.stop_no hys hR').elim
     have hnd : ∀ x ∈ l1 ++ l2, x.i ≠ y.i := fun x hx => by
       rcases List.mem_append.1 hx with hx | hx
       · have := (List.pairwise_append.1 hsort).2.2 x hx y List.mem_cons_self
         omega
       · have := (List.pairwise_cons.1 (List.pairwise_append.1 hsort).2.1).1 x hx
         omega
     have hget : ∀ b, (D.setIfInBounds y.i true).getD b true = if y.i = b then true else D.getD b true := fun b => by
       simp only [Array.getD_eq_getD_getElem?, Array.getElem?_setIfInBounds]
       by_cases e : y.i = b
       · subst e
         have hys : y.i < D.size := by omega
         simp [hys]
       · simp [e]
     refine draw_any hm hok hF hst hpan fuel (l1 ++ l2) (D.setIfInBounds y.i true) (y.next s) a' w' (by simpa using hDs) (by simp at hL ⊢; omega) (fun x hx => hops x ?_) (fun b hb => ?_) (fun x hx => hlt x ?_) (fun b o' hle ho' => ?_) ?_ (fun b o' ho' hb c hc => ?_) g2 ?_ hR' fun a'' w'' hR'' => hQ a'' w'' (hR''.seq g3)
     · rcases List.mem_append.1 hx with hx | hx
       · exact List.mem_append_left _ hx
       · exact List.mem_append_right _ (List.mem_cons_of_mem _ hx)
     · rw [hget]
       by_cases e : y.i = b
       · rw [if_pos e]
         constructor
         · intro h; cases h
         · rintro (⟨x, hx, hxb⟩ | hle)
           · exact absurd (hxb.trans e.symm) (hnd x hx)
           · have := hlt y hy
             omega
       · rw [if_neg e, hD b hb]
         suffices hx : (∃ x ∈ l1 ++ y :: l2, x.i = b) ↔ ∃ x ∈ l1 ++ l2, x.i = b from or_congr hx Iff.rfl
         constructor
         · rintro ⟨x, hx, hxb⟩
           refine ⟨x, ?_, hxb⟩
           rcases List.mem_append.1 hx with hx | hx
           · exact List.mem_append_left _ hx
           · rcases List.mem_cons.1 hx with rfl | hx
             · exact absurd hxb e
             · exact List.mem_append_right _ hx
         · rintro ⟨x, hx, hxb⟩
           refine ⟨x, ?_, hxb⟩
           rcases List.mem_append.1 hx with hx | hx
           · exact List.mem_append_left _ hx
           · exact List.mem_append_right _ (List.mem_cons_of_mem _ hx)
     · rcases List.mem_append.1 hx with hx | hx
       · exact List.mem_append_left _ hx
       · exact List.mem_append_right _ (List.mem_cons_of_mem _ hx)
     · obtain ⟨x, hx, hxs, hxb⟩ := hlim b o' hle ho'
       refine ⟨x, ?_, hxs, hxb⟩
       rcases List.mem_append.1 hx with hx | hx
       · exact List.mem_append_left _ hx
       · rcases List.mem_cons.1 hx with rfl | hx
         · exact absurd hxs hys
         · exact List.mem_append_right _ hx
     · obtain ⟨p1, p2, p3⟩ := List.pairwise_append.1 hsort
       exact List.pairwise_append.2 ⟨p1, (List.pairwise_cons.1 p2).2, fun x hx z hz => p3 x hx z (List.mem_cons_of_mem _ hz)⟩
     · rw [hget]
       by_cases e : y.i = c
       · rw [if_pos e]
       · rw [if_neg e]
         rw [hget] at hb
         by_cases e' : y.i = b
         · subst e'
           have : o' = o := by
             rw [Array.getElem?_toList] at ho'
             rw [ho] at ho'
             exact (Option.some.inj ho').symm
           subst this
           exact ft (h3 c hc)
         · rw [if_neg e'] at hb
           exact hcl b o' ho' hb c hc
     · obtain ⟨p1, p2, p3⟩ := List.pairwise_append.1 hpw
       exact List.pairwise_append.2 ⟨p1, (List.pairwise_cons.1 p2).2, fun x hx z hz => p3 x hx z (List.mem_cons_of_mem _ hz)⟩
def laterB (p : Nat) : List Oper → Bool
 | [] => true
 | o :: l => bif freshIn p (binders o) then false else laterB p l
theorem laterB_spec {p : Nat} : ∀ {l : List Oper}, laterB p l = true → ∀ o ∈ l, p ∈ binders o
 | [], _, o, ho => by cases ho
 | x :: l, h, o, ho => by
   simp only [laterB] at h
   cases hf : freshIn p (binders x) with
   | true => rw [hf] at h; cases h
   | false =>
     rw [hf] at h
     rcases List.mem_cons.1 ho with rfl | ho
     · exact freshIn_not hf
     · exact laterB_spec h o ho
theorem fin_append (s : St) : ∀ (l m : List Stp), fin s (l ++ m) = fin (fin s l) m
 | [], _ => rfl
 | x :: l, m => fin_append (x.next s) l m
theorem TrOK.at {P : Program} {N : Nat} {fx : List Nat} : ∀ {l : List Stp} {s : St} {p : Nat} (h : p < l.length), TrOK gm more P N fx ops s l → ∃ s', StpOK gm more P N fx ops s' l[p]
 | x :: l, s, 0, _, ht => ⟨s, ht.1⟩
 | x :: l, s, p + 1, h, ht => TrOK.at (l := l) (by simpa using h) ht.2
theorem Wp.draw0 (hm : DetM more) (hok : MoreOK more Γ) (hF : FOK F) {id : Nat} {s : St} {K : Exit → St → Prop} (hfol : Γ.P.follows .mixedOrders = true) (hst : drawOK ops = true) {l : List Oper} {lim : Nat} (hl : l = ops.toList.take lim)
   {K' : St → Prop} (h : opsD gm more Γ.P Γ.N Γ.fx ops.toList (ancs ops.toList) l 0 [] s K') (hpan : ∀ v, gm = some (some v) → ∃ D, Γ.pk = some (v, D) ∧ ∀ s, D s)
   (hlim : (ops.size ≤ lim ∧ ∀ s', K' s' → K .normal s') ∨ ∃ p d, p + 1 = lim ∧ (∃ o, ops[p]? = some o ∧ o.dst = some d ∧ o.guard = none) ∧ laterB p (ops.toList.drop lim) = true ∧ ∀ s', K' s' → s'.get d = nev) :
   Wp Γ F n (.region id ops true) s K := by
 subst hl
 intro a w hR
 obtain ⟨T, t1, t2, t3, ⟨s', t4, t4'⟩, t5, t6⟩ := opsD_trace hm h
 have hidx : ∀ x ∈ T, ∃ y, T[y]? = some x := fun x hx => by
   obtain ⟨y, hy, e⟩ := List.getElem_of_mem hx
   exact ⟨y, by rw [List.getElem?_eq_getElem hy, e]⟩
 have hTl : T.length = min lim ops.size := by rw [t1]; simp
 have hops : ∀ x ∈ T, ops[x.i]? = some x.o ∧ x.i < lim := fun x hx => by
   obtain ⟨y, hy⟩ := hidx x hx
   obtain ⟨g1, g2⟩ := t2 y x hy
   rw [Nat.zero_add] at g1
   have hyl := (List.getElem?_eq_some_iff.1 hy).1
   rw [g1]
   rw [List.getElem?_take] at g2
   split at g2
   · exact ⟨by simpa using g2, by omega⟩
   · cases g2
 have hstop : lim < ops.size → ∃ x ∈ T, x.stop ∧ x.i + 1 = lim ∧ laterB x.i (ops.toList.drop lim) = true := fun hlt => by
   obtain ⟨p, d, hp, ⟨o, ho, hd, hg⟩, hb, hn⟩ := hlim.resolve_left fun h => by omega
   have hpl : p < T.length := by omega
   have hT := t2 p T[p] (List.getElem?_eq_getElem hpl)
   rw [Nat.zero_add] at hT
   have hxo : T[p].o = o := by
     have := (hops T[p] (List.getElem_mem hpl)).1
     rw [hT.1, ho] at this
     exact (Option.some.inj this).symm
   refine ⟨T[p], List.getElem_mem hpl, ?_, by omega, by rw [hT.1]; exact hb⟩
   have hn' := hn s' t4
   rw [t4'.get] at hn'
   have hTs : T = T.take p ++ [T[p]] := by
     conv => lhs; rw [← List.take_append_drop p T]
     rw [List.drop_eq_getElem_cons hpl, List.drop_eq_nil_of_le (by omega)]
   have hfin : fin s T = T[p].next (fin s (T.take p)) := by
     conv => lhs; rw [hTs]
     rw [fin_append]
     rfl
   have hdec : T[p].dec.isSome = true := by
     obtain ⟨_, hstp⟩ := TrOK.at hpl t3
     rcases hstp.guard with ⟨_, h⟩ | ⟨j, want, d', b, h1, _⟩
     · exact h
     · rw [hxo, hg] at h1; cases h1
   obtain ⟨⟨v, acts⟩, hdec⟩ := Option.isSome_iff_exists.1 hdec
   refine ⟨d, acts, by rw [hxo]; exact hd, ?_⟩
   rw [hfin] at hn'
   simp only [Stp.next, hdec, hxo, hd, St.putD, St.get_put, if_true] at hn'
   rw [hdec, hn']
 have hf : ∀ i, i < ops.size → (Array.replicate ops.size false).getD i true = false := fun i hi => by simp [Array.getD, hi]
 refine wpIn_region_any hfol (draw_any hm hok hF hst (lim := lim) (fun v hv s' a' w' hR' => ?_) ops.size T _ s a { w with drawn := w.drawn + 1 } (by simp) (by omega) (fun x hx => (hops x hx).1) (fun i hi => ?_) (fun x hx => (hops x hx).2) (fun i o hle ho => ?_) ?_ (fun i o ho hi => ?_) t3 t6 ?_ fun a' w' hR' => ?_)
 · obtain ⟨D, hD, hDs⟩ := hpan v hv
   exact ⟨s', .inr ⟨v, D, hD, rfl, hDs s'⟩, hR'⟩
 · constructor
   · intro _
     by_cases hlt : i < lim
     · left
       have hiT : i < T.length := by omega
       refine ⟨T[i], List.getElem_mem hiT, ?_⟩
       have := (t2 i T[i] (List.getElem?_eq_getElem hiT)).1
       omega
     · exact .inr (by omega)
   · intro _; exact hf i hi
 · have his := (Array.getElem?_eq_some_iff.1 ho).1
   obtain ⟨x, hx, hxs, hxl, hb⟩ := hstop (by omega)
   refine ⟨x, hx, hxs, laterB_spec hb o ?_⟩
   have : (ops.toList.drop lim)[i - lim]? = some o := by
     rw [List.getElem?_drop, show lim + (i - lim) = i by omega]
     simpa using ho
   exact List.mem_of_getElem? this
 · rw [List.pairwise_iff_getElem]
   intro x y hx hy hlt
   have h1 := (t2 x T[x] (List.getElem?_eq_getElem hx)).1
   have h2 := (t2 y T[y] (List.getElem?_eq_getElem hy)).1
   omega
 · have his : i < ops.size := by
     have := (List.getElem?_eq_some_iff.1 ho).1
     simpa using this
   rw [hf i his] at hi
   cases hi
 · obtain ⟨X, β, hr, g⟩ := hR
   exact ⟨X, β, hr.heap rfl rfl tpr rfl, g.sub, g.old, fun hon i t hi => Γ.y.stable i t X _ _ w _ (g.gh hon i t hi) ⟨rfl, tpr, rfl, Nat.le_refl _, fun _ _ _ => rfl⟩ (by rintro b ⟨k, bi, hk, hv, rfl⟩; exact ⟨.inl ⟨k, bi, hk, hv, rfl⟩, hr.lt k bi hk hv⟩), g.lone, g.marks⟩
 · rcases hlim with ⟨_, hn⟩ | ⟨p, d, _, _, _, hn⟩
   · exact ⟨s', .inl (hn s' t4), hR'.seq t4'⟩
   · obtain ⟨X, β, hr, _⟩ := hR'
     have := hr.slots d
     rw [← t4'.get, hn s' t4] at this
     exact (nev_not this).elim
theorem Wp.draw (hm : DetM more) (hok : MoreOK more Γ) (hF : FOK F) {id : Nat} {s : St} {K : Exit → St → Prop} (hfol : Γ.P.follows .mixedOrders = true) (hst : drawOK ops = true)
   {A : List Nat} (hA : ancs ops.toList = A) (h : opsD none more Γ.P Γ.N Γ.fx ops.toList A ops.toList 0 [] s (K .normal)) : Wp Γ F n (.region id ops true) s K := by
 subst hA
 exact Wp.draw0 hm hok hF hfol hst (lim := ops.size) (by simp [List.take_of_length_le]) h (fun v hv => by cases hv) (.inl ⟨Nat.le_refl _, fun _ h => h⟩)
end
end Go.Avc
/- Lengths of what is handed to a function are bounded. Conditions: none. -/
namespace Go.Avc
open Go.RowKit
mutual
def PV.bd : PV → Prop
 | .sl _ rows => rows.length ≤ 9223372036854775807 ∧ bdLL rows
 | .agg cs => bdL cs
 | .ptr cs => bdL cs
 | .par _ rows => bdLL rows
 | .tup cs => bdL cs
 | .fn _ cs => bdL cs
 | .val _ => True
 | .slc _ _ => True
 | .mp _ _ => True
def bdL : List PV → Prop
 | [] => True
 | p :: l => p.bd ∧ bdL l
def bdLL : List (List PV) → Prop
 | [] => True
 | r :: l => bdL r ∧ bdLL l
end
theorem bdL_iff : ∀ {l : List PV}, bdL l ↔ ∀ p ∈ l, p.bd
 | [] => by simp [bdL]
 | p :: l => by simp [bdL, bdL_iff (l := l)]
theorem bdLL_iff : ∀ {l : List (List PV)}, bdLL l ↔ ∀ r ∈ l, ∀ p ∈ r, p.bd
 | [] => by simp [bdLL]
 | p :: l => by simp [bdLL, bdLL_iff (l := l), bdL_iff]
theorem PR.bd {w : World} {A : Nat → Prop} {p : PV} {v : Value} (h : PR w A p v) : p.bd := by
 have mem : ∀ {cs : List PV}, (∀ (j : Nat) (p : PV), cs[j]? = some p → p.bd) → bdL cs := fun h => bdL_iff.2 fun p hp => by
   obtain ⟨j, hj, rfl⟩ := List.getElem_of_mem hp
   exact h j _ (List.getElem?_eq_getElem hj)
 induction h with
 | val => simp [PV.bd]
 | slnil => simp [PV.bd, bdLL]
 | sl sz rows a cap us hc hm _ _ _ _ _ ih =>
   simp only [PV.bd]
   refine ⟨by unfold maxLen at hm; omega, bdLL_iff.2 fun r hr p hp => ?_⟩
   obtain ⟨i, hi, rfl⟩ := List.getElem_of_mem hr
   obtain ⟨j, hj, rfl⟩ := List.getElem_of_mem hp
   exact ih i _ j _ (List.getElem?_eq_getElem hi) (List.getElem?_eq_getElem hj)
 | ptr cs a us _ _ _ ih => simp only [PV.bd]; exact mem ih
 | par sz rows a us _ _ _ _ _ ih =>
   simp only [PV.bd]
   refine bdLL_iff.2 fun r hr p hp => ?_
   obtain ⟨i, hi, rfl⟩ := List.getElem_of_mem hr
   obtain ⟨j, hj, rfl⟩ := List.getElem_of_mem hp
   exact ih i _ j _ (List.getElem?_eq_getElem hi) (List.getElem?_eq_getElem hj)
 | agg cs vs _ _ ih => simp only [PV.bd]; exact mem ih
 | tup cs vs _ _ ih => simp only [PV.bd]; exact mem ih
 | fn f cs vs _ _ ih => simp only [PV.bd]; exact mem ih
 | bm f g p v _ _ ih => simp only [PV.bd, bdL]; exact ⟨ih, trivial⟩
 | slcnil => simp [PV.bd]
 | slc => simp [PV.bd]
 | mp => simp [PV.bd]
theorem PSpec.bd {P : Program} {f : FuncId} {args : List PV} {res : PV} (hcall : ∀ (vs : Array Value) (w : World), (callFunc f vs).run P w = .ok (.enter f vs) w) (h : bdL args → PSpec P f args res) : PSpec P f args res :=
 ⟨hcall, fun w X vs hgl hsz hv hX => (h (bdL_iff.2 fun p hp => by
   obtain ⟨j, hj, rfl⟩ := List.getElem_of_mem hp
   exact (hv j _ (List.getElem?_eq_getElem hj)).bd)).2 w X vs hgl hsz hv hX⟩
end Go.Avc
/- A contract at arguments that say more. Conditions: none. -/
namespace Go.Avc
theorem PSpec.args {P : Program} {f : FuncId} {args args' : List PV} {res : PV} (h : PSpec P f args' res) (hs : SubL args args') : PSpec P f args res :=
 ⟨h.1, fun w X vs hgl hsz hv hX => h.2 w X vs hgl (by rw [hsz, hs.get.1]) (fun j p hp => by
   obtain ⟨p', hp', hsub⟩ := hs.get.2 j p hp
   exact hsub _ _ _ (hv j p' hp')) hX⟩
theorem PSpec.res {P : Program} {f : FuncId} {args : List PV} {r r' : PV} (h : PSpec P f args r) (hs : PSub r r') : PSpec P f args r' :=
 ⟨h.1, fun w X vs hgl hsz hv hX => (h.2 w X vs hgl hsz hv hX).mono fun _ _ ⟨v, e, hr, k⟩ => ⟨v, e, hs _ _ _ hr, k⟩⟩
end Go.Avc
/- From a contract in abstract values to a given statement: the arguments' reading is opened into abstract values. Conditions: none. -/
namespace Go.Avc
open Go.ChangeShapes Go.WideShapes Go.RowKit
def Fits (W : World) (cs : List Value) (ps : List PV) : Prop :=
 ps.length = cs.length ∧ ∀ (j : Nat) (p : PV), ps[j]? = some p → ∃ v, cs[j]? = some v ∧ PR W (fun _ => False) p v ∧ v.oneCell' = true
theorem Fits.nil (W : World) : Fits W [] [] := ⟨rfl, fun j p h => by simp at h⟩
theorem Fits.one {W : World} {v : Value} {p : PV} (h : PR W (fun _ => False) p v) (h1 : v.oneCell' = true) : Fits W [v] [p] :=
 ⟨rfl, fun j q hq => by
   cases j with
   | zero => simp only [List.getElem?_cons_zero, Option.some.injEq] at hq; subst hq; exact ⟨v, rfl, h, h1⟩
   | succ j => simp at hq⟩
theorem Fits.append {W : World} {c c' : List Value} {p p' : List PV} (h : Fits W c p) (h' : Fits W c' p') : Fits W (c ++ c') (p ++ p') := by
 refine ⟨by simp [h.1, h'.1], fun j q hq => ?_⟩
 by_cases hj : j < p.length
 · rw [List.getElem?_append_left hj] at hq
   rw [List.getElem?_append_left (by rw [← h.1]; exact hj)]
   exact h.2 j q hq
 · rw [List.getElem?_append_right (by omega)] at hq
   rw [List.getElem?_append_right (by rw [← h.1]; omega), ← h.1]
   exact h'.2 _ q hq
def OpnF (P : Program) (fuel : Nat) (t : TypeId) (Q : List PV → Prop) : Prop :=
 ∀ (H : Type) (enc : TypeId × Value → H) (W : World) (cs : List Value) (d : DataW H) (ms : List MemPlace),
   DataW.trod enc P W 0 (fun _ => true) true fuel t cs = some (d, ms) → (∀ n ∈ d.weights P t, n ≤ reachBytes) → ∃ ps, Fits W cs ps ∧ Q ps
def Opn (P : Program) (t : TypeId) (Q : List PV → Prop) : Prop := ∀ fuel, OpnF P fuel t Q
theorem OpnF.mono {P : Program} {fuel : Nat} {t : TypeId} {Q Q' : List PV → Prop} (h : OpnF P fuel t Q) (hQ : ∀ ps, Q ps → Q' ps) : OpnF P fuel t Q' :=
 fun H enc W cs d ms hd hw => by
   obtain ⟨ps, h1, h2⟩ := h H enc W cs d ms hd hw
   exact ⟨ps, h1, hQ ps h2⟩
theorem Opn.mono {P : Program} {t : TypeId} {Q Q' : List PV → Prop} (h : Opn P t Q) (hQ : ∀ ps, Q ps → Q' ps) : Opn P t Q' := fun fuel => (h fuel).mono hQ
theorem OpnF.zero {P : Program} {t : TypeId} {Q : List PV → Prop} : OpnF P 0 t Q := fun H enc W cs d ms hd _ => by simp [DataW.trod] at hd
theorem Opn.of_step {P : Program} {t : TypeId} {Q : List PV → Prop} (h : ∀ fuel, OpnF P (fuel + 1) t Q) : Opn P t Q := fun fuel => by
 cases fuel with
 | zero => exact OpnF.zero
 | succ n => exact h n
theorem OpnF.bool {P : Program} {fuel : Nat} {t : TypeId} (ht : P.underlying t = some .bool) : OpnF P fuel t (fun ps => ∃ b, ps = [.val (.bool b)]) := by
 intro H enc W cs d ms hd _
 cases fuel with
 | zero => simp [DataW.trod] at hd
 | succ fuel =>
   simp only [DataW.trod, ht] at hd
   rcases cs with _ | ⟨v, _ | ⟨v2, r⟩⟩
   · simp at hd
   · cases v <;> simp at hd
     exact ⟨_, Fits.one (.val _) rfl, _, rfl⟩
   · simp at hd
theorem OpnF.int {P : Program} {fuel : Nat} {t : TypeId} {k : IntKind} (ht : P.underlying t = some (.int k)) : OpnF P fuel t (fun ps => ∃ n, ps = [.val (.int k n)] ∧ k.has n) := by
 intro H enc W cs d ms hd _
 cases fuel with
 | zero => simp [DataW.trod] at hd
 | succ fuel =>
   simp only [DataW.trod, ht] at hd
   rcases cs with _ | ⟨v, _ | ⟨v2, r⟩⟩
   · simp at hd
   · cases v <;> simp at hd
     obtain ⟨⟨rfl, hwf⟩, _⟩ := hd
     exact ⟨_, Fits.one (.val _) rfl, _, rfl, by simpa [Lit.wf, IntKind.has] using hwf⟩
   · simp at hd
theorem OpnF.string {P : Program} {fuel : Nat} {t : TypeId} (ht : P.underlying t = some .string) : OpnF P fuel t (fun ps => ∃ s, ps = [.val (.string s)] ∧ s.size ≤ reachBytes) := by
 intro H enc W cs d ms hd hw
 cases fuel with
 | zero => simp [DataW.trod] at hd
 | succ fuel =>
   simp only [DataW.trod, ht] at hd
   rcases cs with _ | ⟨v, _ | ⟨v2, r⟩⟩
   · simp at hd
   · cases v <;> simp at hd
     obtain ⟨_, rfl, _⟩ := hd
     exact ⟨_, Fits.one (.val _) rfl, _, rfl, by simpa [DataW.weights] using hw⟩
   · simp at hd
def SeqQ : List (List PV → Prop) → List PV → Prop
 | [], ps => ps = []
 | Q :: Qs, ps => ∃ a, Q a ∧ ∃ b, SeqQ Qs b ∧ ps = a ++ b
def All2 {α β : Type} (R : α → β → Prop) : List α → List β → Prop
 | [], [] => True
 | a :: l, b :: m => R a b ∧ All2 R l m
 | _, _ => False
def contig (P : Program) (tot : Nat) : Nat → List Field → Bool
 | o, [] => o == tot
 | o, f :: fs => f.offset == o && contig P tot (o + P.cellsOf f.type) fs
theorem open_fields {H : Type} {enc : TypeId × Value → H} {P : Program} {W : World} {fuel : Nat} {cs : List Value} : ∀ {fs : List Field} {Qs : List (List PV → Prop)} {o : Nat} {xs : List (DataW H × List MemPlace)},
   contig P cs.length o fs = true → All2 (OpnF P fuel) (fs.map (·.type)) Qs → fs.mapM (fun f => DataW.trod enc P W 0 (fun _ => true) true fuel f.type ((cs.drop f.offset).take (P.cellsOf f.type))) = some xs →
   (∀ n ∈ DataW.weightsEach P (fs.map (·.type)) (xs.map (·.1)), n ≤ reachBytes) → ∃ ps, Fits W (cs.drop o) ps ∧ SeqQ Qs ps
 | [], [], o, xs, hc, _, _, _ => by
   simp only [contig, beq_iff_eq] at hc
   exact ⟨[], by rw [List.drop_of_length_le (by omega)]; exact Fits.nil W, rfl⟩
 | [], _ :: _, _, _, _, h, _, _ => h.elim
 | _ :: _, [], _, _, _, h, _, _ => h.elim
 | f :: fs, Q :: Qs, o, xs, hc, h, hm, hw => by
   simp only [contig, Bool.and_eq_true, beq_iff_eq] at hc
   obtain ⟨rfl, hc⟩ := hc
   rw [List.mapM_cons] at hm
   cases hx : DataW.trod enc P W 0 (fun _ => true) true fuel f.type ((cs.drop f.offset).take (P.cellsOf f.type)) with
   | none => simp [hx] at hm
   | some x =>
     cases hxs : fs.mapM (fun f => DataW.trod enc P W 0 (fun _ => true) true fuel f.type ((cs.drop f.offset).take (P.cellsOf f.type))) with
     | none => simp [hx, hxs] at hm
     | some ys =>
       simp [hx, hxs] at hm
       subst hm
       simp only [List.map_cons, DataW.weightsEach, List.mem_append] at hw
       obtain ⟨a, ha, hqa⟩ := h.1 H enc W _ x.1 x.2 hx (fun n hn => hw n (.inl hn))
       obtain ⟨b, hb, hqb⟩ := open_fields hc h.2 hxs (fun n hn => hw n (.inr hn))
       refine ⟨a ++ b, ?_, a, hqa, b, hqb, rfl⟩
       have := ha.append hb
       rwa [← List.drop_drop, List.take_append_drop] at this
theorem OpnF.struct {P : Program} {fuel : Nat} {t : TypeId} {fs : Array Field} {Qs : List (List PV → Prop)} (ht : P.underlying t = some (.struct fs)) (hc : contig P (P.cellsOf t) 0 fs.toList = true)
   (h : All2 (OpnF P fuel) (fs.toList.map (·.type)) Qs) : OpnF P (fuel + 1) t (SeqQ Qs) := by
 intro H enc W cs d ms hd hw
 have hd' : (if cs.length = P.cellsOf t then (fs.toList.mapM fun f => DataW.trod enc P W 0 (fun _ => true) true fuel f.type ((cs.drop f.offset).take (P.cellsOf f.type))).map fun xs => ((.agg (xs.map (·.1)), xs.flatMap (·.2)) : DataW H × List MemPlace) else none) = some (d, ms) := by
   rw [← hd]
   simp only [DataW.trod, ht]
 split at hd'
 · rename_i hl
   rw [← hl] at hc
   cases hxs : fs.toList.mapM (fun f => DataW.trod enc P W 0 (fun _ => true) true fuel f.type ((cs.drop f.offset).take (P.cellsOf f.type))) with
   | none => rw [hxs] at hd'; simp at hd'
   | some xs =>
     rw [hxs] at hd'
     simp only [Option.map_some, Option.some.injEq, Prod.mk.injEq] at hd'
     obtain ⟨rfl, _⟩ := hd'
     simp only [DataW.weights, ht] at hw
     exact open_fields hc h hxs hw
 · cases hd'
theorem Opn.struct {P : Program} {t : TypeId} {fs : Array Field} {Qs : List (List PV → Prop)} (ht : P.underlying t = some (.struct fs)) (hc : contig P (P.cellsOf t) 0 fs.toList = true)
   (h : ∀ fuel, All2 (OpnF P fuel) (fs.toList.map (·.type)) Qs) : Opn P t (SeqQ Qs) := Opn.of_step fun fuel => OpnF.struct ht hc (h fuel)
theorem Opn.bool {P : Program} {t : TypeId} (ht : P.underlying t = some .bool) : Opn P t (fun ps => ∃ b, ps = [.val (.bool b)]) := fun _ => OpnF.bool ht
theorem Opn.int {P : Program} {t : TypeId} {k : IntKind} (ht : P.underlying t = some (.int k)) : Opn P t (fun ps => ∃ n, ps = [.val (.int k n)] ∧ k.has n) := fun _ => OpnF.int ht
theorem Opn.string {P : Program} {t : TypeId} (ht : P.underlying t = some .string) : Opn P t (fun ps => ∃ s, ps = [.val (.string s)] ∧ s.size ≤ reachBytes) := fun _ => OpnF.string ht
theorem cells?_get {w : World} {base n : Nat} {a : Addr} {ci : List Value} (h : w.cells? base a n = some ci) : ci.length = n ∧ ∀ j, j < n → w.cell? (a.add j) = ci[j]? := by
 unfold World.cells? at h
 split at h
 · refine ⟨by simpa using mapM_some_length h, fun j hj => ?_⟩
   exact mapM_some_get h j j (by simp [hj])
 · cases h
theorem cell_lt {w : World} {a : Addr} {v : Value} (h : w.cell? a = some v) : a.block < w.heap.size := by
 unfold World.cell? at h
 split at h
 · rename_i h1
   exact (Array.getElem?_eq_some_iff.1 h1).1
 · cases h
theorem choose_lt {α : Type} [Inhabited α] {n : Nat} {R : Nat → α → Prop} (h : ∀ i, i < n → ∃ x, R i x) : ∃ g : Nat → α, ∀ i, i < n → R i (g i) :=
 ⟨fun i => if hi : i < n then Classical.choose (h i hi) else default, fun i hi => by simp only [dif_pos hi]; exact Classical.choose_spec (h i hi)⟩
theorem weights_all {H : Type} {P : Program} {e : TypeId} : ∀ {l : List (DataW H)} {d : DataW H}, d ∈ l → ∀ n ∈ d.weights P e, n ∈ DataW.weightsAll P e l
 | _ :: _, _, .head _, n, hn => by simp only [DataW.weightsAll, List.mem_append]; exact .inl hn
 | _ :: _, _, .tail _ h, n, hn => by simp only [DataW.weightsAll, List.mem_append]; exact .inr (weights_all h n hn)
theorem OpnF.slice {P : Program} {fuel : Nat} {t e : TypeId} {n : Nat} {Q : List PV → Prop} (ht : P.underlying t = some (.slice e)) (hn : P.cellsOf e = n) (hpos : 0 < n) (h : OpnF P fuel e Q) :
   OpnF P (fuel + 1) t (fun ps => ∃ rows, ps = [.sl n rows] ∧ (∀ r ∈ rows, Q r) ∧ rows.length * P.bytesOf e ≤ reachBytes) := by
 subst hn
 intro H enc W cs d ms hd hw
 simp only [DataW.trod, ht] at hd
 rcases cs with _ | ⟨v, _ | ⟨v2, r⟩⟩
 · simp at hd
 · cases v <;> try (simp at hd; done)
   rename_i ao len cap
   cases ao with
   | none =>
     rcases len with _ | len
     · rcases cap with _ | cap
       · exact ⟨_, Fits.one (.slnil _) rfl, [], rfl, by simp, by simp⟩
       · simp at hd
     · simp at hd
   | some a =>
     simp only at hd
     split at hd
     · rename_i hc
       obtain ⟨_, hlc, hcm⟩ := hc
       cases hel : (List.range len).mapM (fun i => (W.cells? 0 (a.add (i * P.cellsOf e)) (P.cellsOf e)).bind (DataW.trod enc P W 0 (fun _ => true) true fuel e)) with
       | none => rw [hel] at hd; simp at hd
       | some elems =>
         rw [hel] at hd
         simp only [if_true, Option.bind_some] at hd
         cases hre : (List.range (cap - len)).mapM (fun j => (W.cells? 0 (a.add ((len + j) * P.cellsOf e)) (P.cellsOf e)).bind (DataW.trod enc P W 0 (fun _ => true) true fuel e)) with
         | none => rw [hre] at hd; simp at hd
         | some rest =>
           rw [hre] at hd
           simp only [Option.map_some, Option.some.injEq, Prod.mk.injEq] at hd
           obtain ⟨rfl, _⟩ := hd
           simp only [DataW.weights, ht, List.mem_cons, List.mem_append] at hw
           have hlen : elems.length = len := by simpa using mapM_some_length hel
           have key : ∀ i, i < len → ∃ row : List PV, Q row ∧ row.length = P.cellsOf e ∧ ∀ (j : Nat) (p : PV), row[j]? = some p → ∃ v, W.cell? (a.add (i * P.cellsOf e + j)) = some v ∧ PR W (fun _ => False) p v ∧ v.oneCell' = true := by
             intro i hi
             have h1 := mapM_some_get hel i i (by simp [hi])
             cases hci : W.cells? 0 (a.add (i * P.cellsOf e)) (P.cellsOf e) with
             | none => rw [hci] at h1; simp [hlen, hi] at h1
             | some ci =>
               rw [hci] at h1
               have hx : elems[i]? = some elems[i] := List.getElem?_eq_getElem (by omega)
               rw [hx, Option.bind_some] at h1
               obtain ⟨row, hf, hq⟩ := h H enc W ci elems[i].1 elems[i].2 h1 (fun n hn => hw n (.inr (.inl (weights_all (List.mem_map.2 ⟨elems[i], List.getElem_mem _, rfl⟩) n hn))))
               obtain ⟨hcl, hcg⟩ := cells?_get hci
               refine ⟨row, hq, by rw [hf.1, hcl], fun j p hp => ?_⟩
               obtain ⟨v, hv, h2, h3⟩ := hf.2 j p hp
               refine ⟨v, ?_, h2, h3⟩
               have hj := (List.getElem?_eq_some_iff.1 hp).1
               rw [← Addr.add_add, hcg j (by rw [← hcl, ← hf.1]; exact hj)]
               exact hv
           obtain ⟨g, hg⟩ := choose_lt key
           have hrow : ∀ (i : Nat) (row : List PV), ((List.range len).map g)[i]? = some row → i < len ∧ row = g i := by
             intro i row hr
             simp only [List.getElem?_map, Option.map_eq_some_iff, List.getElem?_eq_some_iff, List.length_range, List.getElem_range] at hr
             obtain ⟨_, ⟨hi, rfl⟩, rfl⟩ := hr
             exact ⟨hi, rfl⟩
           have hwl : len * P.bytesOf e ≤ reachBytes := by
             have := hw _ (.inl rfl)
             simp only [List.length_map] at this
             refine Nat.le_trans (Nat.mul_le_mul_right _ ?_) this
             omega
           refine ⟨[.sl (P.cellsOf e) ((List.range len).map g)], Fits.one ?_ rfl, _, rfl, fun r hr => ?_, by simpa using hwl⟩
           · have hsl := PR.sl (w := W) (A := fun _ => False) (P.cellsOf e) ((List.range len).map g) a cap (fun i j => (W.cell? (a.add (i * P.cellsOf e + j))).getD undef) (by simpa using hlc) hcm hpos
               (fun hl => by
                 simp only [List.length_map, List.length_range] at hl
                 obtain ⟨_, hl1, hg1⟩ := hg 0 hl
                 obtain ⟨v, hv, _⟩ := hg1 0 _ (List.getElem?_eq_getElem (by omega))
                 have := cell_lt hv
                 rw [block_add] at this
                 exact ⟨this, fun h => h⟩)
               (fun i row hr => by obtain ⟨hi, rfl⟩ := hrow i row hr; exact (hg i hi).2.1)
               (fun i row j p hr hp => by
                 obtain ⟨hi, rfl⟩ := hrow i row hr
                 obtain ⟨v, hv, _, h3⟩ := (hg i hi).2.2 j p hp
                 simp only [hv, Option.getD_some]
                 exact ⟨trivial, h3⟩)
               (fun i row j p hr hp => by
                 obtain ⟨hi, rfl⟩ := hrow i row hr
                 obtain ⟨v, hv, h2, _⟩ := (hg i hi).2.2 j p hp
                 simp only [hv, Option.getD_some]
                 exact h2)
             rwa [List.length_map, List.length_range] at hsl
           · obtain ⟨i, hi, rfl⟩ := List.mem_map.1 hr
             exact (hg i (by simpa using hi)).1
     · cases hd
 · simp at hd
theorem Opn.slice {P : Program} {t e : TypeId} {n : Nat} {Q : List PV → Prop} (ht : P.underlying t = some (.slice e)) (hn : P.cellsOf e = n) (hpos : 0 < n) (h : Opn P e Q) :
   Opn P t (fun ps => ∃ rows, ps = [.sl n rows] ∧ (∀ r ∈ rows, Q r) ∧ rows.length * P.bytesOf e ≤ reachBytes) := Opn.of_step fun fuel => OpnF.slice ht hn hpos (h fuel)
theorem OpnF.array {P : Program} {fuel : Nat} {t e : TypeId} {n : Nat} {Q : List PV → Prop} (ht : P.underlying t = some (.array n e)) (hn : P.cellsOf t = n * P.cellsOf e) (h : OpnF P fuel e Q) :
   OpnF P (fuel + 1) t (fun ps => ∃ parts : List (List PV), ps = parts.flatten ∧ parts.length = n ∧ ∀ r ∈ parts, Q r) := by
 intro H enc W cs d ms hd hw
 have hd' : (if cs.length = P.cellsOf t then ((List.range n).mapM fun i => DataW.trod enc P W 0 (fun _ => true) true fuel e ((cs.drop (i * P.cellsOf e)).take (P.cellsOf e))).map fun xs => ((.agg (xs.map (·.1)), xs.flatMap (·.2)) : DataW H × List MemPlace) else none) = some (d, ms) := by
   rw [← hd]
   simp only [DataW.trod, ht]
 split at hd'
 · rename_i hl
   cases hxs : (List.range n).mapM (fun i => DataW.trod enc P W 0 (fun _ => true) true fuel e ((cs.drop (i * P.cellsOf e)).take (P.cellsOf e))) with
   | none => rw [hxs] at hd'; simp at hd'
   | some xs =>
     rw [hxs] at hd'
     simp only [Option.map_some, Option.some.injEq, Prod.mk.injEq] at hd'
     obtain ⟨rfl, _⟩ := hd'
     simp only [DataW.weights, ht] at hw
     have hlen : xs.length = n := by simpa using mapM_some_length hxs
     have step : ∀ k, k ≤ n → ∃ parts : List (List PV), parts.length = k ∧ (∀ r ∈ parts, Q r) ∧ Fits W (cs.take (k * P.cellsOf e)) parts.flatten := by
       intro k
       induction k with
       | zero => intro _; exact ⟨[], rfl, by simp, by simpa using Fits.nil W⟩
       | succ k ih =>
         intro hk
         obtain ⟨parts, h1, h2, h3⟩ := ih (by omega)
         have hr : (List.range n)[k]? = some k := by rw [List.getElem?_range (by omega)]
         have hk' := mapM_some_get hxs k k hr
         have hx : xs[k]? = some xs[k] := List.getElem?_eq_getElem (by omega)
         rw [hx] at hk'
         obtain ⟨row, hf, hq⟩ := h H enc W _ xs[k].1 xs[k].2 hk' (fun n hn => hw n (weights_all (List.mem_map.2 ⟨xs[k], List.getElem_mem _, rfl⟩) n hn))
         refine ⟨parts ++ [row], by simp [h1], fun r hr => ?_, ?_⟩
         · rcases List.mem_append.1 hr with hr | hr
           · exact h2 r hr
           · rw [List.mem_singleton.1 hr]; exact hq
         · have := h3.append hf
           rw [Nat.succ_mul, List.take_add]
           simpa using this
     obtain ⟨parts, h1, h2, h3⟩ := step n (Nat.le_refl n)
     rw [← hn, ← hl, List.take_length] at h3
     exact ⟨_, h3, parts, rfl, h1, h2⟩
 · cases hd'
theorem Opn.array {P : Program} {t e : TypeId} {n : Nat} {Q : List PV → Prop} (ht : P.underlying t = some (.array n e)) (hn : P.cellsOf t = n * P.cellsOf e) (h : Opn P e Q) :
   Opn P t (fun ps => ∃ parts : List (List PV), ps = parts.flatten ∧ parts.length = n ∧ ∀ r ∈ parts, Q r) := Opn.of_step fun fuel => OpnF.array ht hn (h fuel)
theorem rows_map {α β : Type} {f : α → β} {R : α → Prop} : ∀ {rows : List β}, (∀ r ∈ rows, ∃ x, r = f x ∧ R x) → ∃ xs : List α, rows = xs.map f ∧ ∀ x ∈ xs, R x
 | [], _ => ⟨[], rfl, by simp⟩
 | r :: rows, h => by
   obtain ⟨x, rfl, hx⟩ := h r (.head _)
   obtain ⟨xs, rfl, hxs⟩ := rows_map fun r' hr => h r' (.tail _ hr)
   exact ⟨x :: xs, rfl, fun y hy => by
     rcases List.mem_cons.1 hy with rfl | hy
     · exact hx
     · exact hxs y hy⟩
def isAgg (P : Program) (t : TypeId) : Bool := match P.underlying t with | some (.struct _) => true | some (.array _ _) => true | _ => false
def argPV (g : Bool) (ps : List PV) : PV := match g with | true => .agg ps | false => ps.headD (.val undef)
def ArgsAll : List Bool → List (List PV → Prop) → (List PV → Prop) → Prop
 | [], [], K => K []
 | g :: gs, Q :: Qs, K => ∀ ps, Q ps → ArgsAll gs Qs fun l => K (argPV g ps :: l)
 | _, _, _ => False
theorem arg_open {H : Type} {enc : TypeId × Value → H} {P : Program} {W : World} {base : Nat} {t : TypeId} {v : Value} {d : DataW H} {ms : List MemPlace} {Q : List PV → Prop}
   (hval : Value.okWide P W .any base t v) (h : Opn P t Q) (hd : DataW.Trod enc P W 0 (fun _ => true) true t v d ms) (hw : ∀ n ∈ d.weights P t, n ≤ reachBytes) :
   ∃ ps, Q ps ∧ PR W (fun _ => False) (argPV (isAgg P t) ps) v := by
 obtain ⟨fuel, hd⟩ := hd
 obtain ⟨ps, hf, hq⟩ := h fuel H enc W _ d ms hd hw
 refine ⟨ps, hq, ?_⟩
 have leaf : v.cells.toList = [v] → PR W (fun _ => False) (argPV false ps) v := by
   intro hv
   rw [hv] at hf
   rcases ps with _ | ⟨p, _ | ⟨q, r⟩⟩
   · simp [Fits] at hf
   · obtain ⟨u, hu, h1, _⟩ := hf.2 0 p rfl
     simp only [List.getElem?_cons_zero, Option.some.injEq] at hu
     subst hu
     exact h1
   · simp [Fits] at hf
 have agg : ∀ cs, v = .agg cs → PR W (fun _ => False) (argPV true ps) v := by
   rintro cs rfl
   refine .agg ps cs (by rw [hf.1]; rfl) fun j p hp => ?_
   obtain ⟨u, hu, h1, _⟩ := hf.2 j p hp
   have : cs.getD j undef = u := by
     have hu' : cs[j]? = some u := by simpa [Value.cells] using hu
     simp [Array.getD_eq_getD_getElem?, hu']
   rw [this]
   exact h1
 unfold Value.okWide at hval
 unfold isAgg
 split at hval
 · rename_i fs ht
   obtain ⟨cs, rfl, _⟩ := hval
   rw [ht]
   exact agg cs rfl
 · rename_i n e ht
   obtain ⟨cs, rfl, _⟩ := hval
   rw [ht]
   exact agg cs rfl
 · rename_i h1 h2
   have hna : (∀ cs, v ≠ .agg cs) := by
     rintro cs rfl
     unfold Cell.okWide at hval
     split at hval <;> simp_all [Cell.ok]
   have hv : v.cells.toList = [v] := by
     cases v <;> first | rfl | exact absurd rfl (hna _)
   split
   · rename_i fs ht; exact absurd ht (h1 fs)
   · rename_i n e ht; exact absurd ht (h2 n e)
   · exact leaf hv
theorem args_open {H : Type} {enc : TypeId × Value → H} {P : Program} {W : World} {base : Nat} : ∀ {ts : List TypeId} {vs : List Value} {ds : List (DataW H)} {ms : List MemPlace} {Qs : List (List PV → Prop)} {K : List PV → Prop},
   DataW.TrodAll enc P W 0 (fun _ => true) true ts vs ds ms → (∀ n ∈ DataW.weightsEach P ts ds, n ≤ reachBytes) → (∀ (j : Nat) t v, ts[j]? = some t → vs[j]? = some v → Value.okWide P W .any base t v) →
   All2 (Opn P) ts Qs → ArgsAll (ts.map (isAgg P)) Qs K → ∃ l, K l ∧ vs.length = l.length ∧ ∀ (j : Nat) (p : PV) (v : Value), l[j]? = some p → vs[j]? = some v → PR W (fun _ => False) p v
 | [], [], [], _, [], K, _, _, _, _, hK => ⟨[], hK, rfl, fun j p v h => by simp at h⟩
 | t :: ts, v :: vs, d :: ds, ms, Q :: Qs, K, hd, hw, hval, hop, hK => by
   obtain ⟨m1, m2, h1, h2, _⟩ := hd
   simp only [DataW.weightsEach, List.mem_append] at hw
   obtain ⟨ps, hq, hpr⟩ := arg_open (hval 0 t v rfl rfl) hop.1 h1 (fun n hn => hw n (.inl hn))
   obtain ⟨l, hl, hlen, hall⟩ := args_open h2 (fun n hn => hw n (.inr hn)) (fun j t v ht hv => hval (j + 1) t v ht hv) hop.2 (hK ps hq)
   refine ⟨_, hl, by simp [hlen], fun j p u hp hu => ?_⟩
   cases j with
   | zero =>
     simp only [List.getElem?_cons_zero, Option.some.injEq] at hp hu
     subst hp; subst hu
     exact hpr
   | succ j => exact hall j p u (by simpa using hp) (by simpa using hu)
theorem trodAll_carry {H : Type} {enc : TypeId × Value → H} {P : Program} {W W' : World} (hl : laidOutB P = true) (hb : Below W.heap.size W W') : ∀ {ts : List TypeId} {vs : List Value} {ds : List (DataW H)} {ms : List MemPlace},
   (∀ t ∈ ts, P.readableRec t = true ∧ t < P.types.size) → DataW.TrodAll enc P W 0 (fun _ => true) true ts vs ds ms → (∀ x ∈ ms, x.block < W.heap.size) → DataW.TrodAll enc P W' 0 (fun b => decide (b < W.heap.size)) true ts vs ds ms
 | [], [], [], _, _, h, _ => h
 | t :: ts, v :: vs, d :: ds, ms, hr, h, hlt => by
   obtain ⟨p, q, h1, h2, rfl⟩ := h
   obtain ⟨r1, r2⟩ := hr t (.head _)
   exact ⟨p, q, Below.trod hl r1 r2 h1 hb (fun x hx => hlt x (List.mem_append.2 (.inl hx))), trodAll_carry hl hb (fun t ht => hr t (.tail _ ht)) h2 (fun x hx => hlt x (List.mem_append.2 (.inr hx))), rfl⟩
theorem weights_more {H : Type} {P : Program} {us : List TypeId} {n : Nat} : ∀ {ts : List TypeId} {ds : List (DataW H)}, n ∈ DataW.weightsEach P ts ds → n ∈ DataW.weightsEach P (ts ++ us) ds
 | [], [], h => by simp [DataW.weightsEach] at h
 | [], _ :: _, h => by simp [DataW.weightsEach] at h
 | _ :: _, [], h => by simp [DataW.weightsEach] at h
 | t :: ts, d :: ds, h => by
   simp only [DataW.weightsEach, List.mem_append, List.cons_append] at h ⊢
   rcases h with h | h
   · exact .inl h
   · exact .inr (weights_more h)
theorem Kp.below {w w' : World} (h : Kp (fun _ => False) w w') : Below w.heap.size w w' := ⟨h.os, h.tape.eq, h.output, h.size, fun k hk => h.block k hk fun e => e⟩
theorem trodAll_len {H : Type} {enc : TypeId × Value → H} {P : Program} {W : World} {base : Nat} {spare : Nat → Bool} {held : Bool} : ∀ {ts : List TypeId} {vs : List Value} {ds : List (DataW H)} {ms : List MemPlace}, DataW.TrodAll enc P W base spare held ts vs ds ms → ds.length = ts.length
 | [], [], [], _, _ => rfl
 | _ :: _, _ :: _, _ :: _, _, h => by
   obtain ⟨_, _, _, h2, _⟩ := h
   simp [trodAll_len h2]
def globsNone (P : Program) : Bool := P.globals.all fun g => (tableOf g.name).isNone
theorem globOK_none {P : Program} (h : globsNone P = true) (w : World) (A : Nat → Prop) : GlobOK P w A := fun g sz rows hg => by
 unfold globAt at hg
 cases hx : P.globals[g]? with
 | none => rw [hx] at hg; cases hg
 | some gl =>
   rw [hx] at hg
   have hlt := (Array.getElem?_eq_some_iff.1 hx).1
   have := (Array.all_eq_true.1 h) g hlt
   rw [(Array.getElem?_eq_some_iff.1 hx).2] at this
   simp only [Option.bind_some] at hg
   rw [hg] at this
   cases this
def Says (s : ChangeSpec) (n : Nat) : Prop := s.vars = [] ∧ ∀ (H : Type) (ds : List (DataW H)), ds.length = n → s.fn H ds = { results := [.lit (.bool true)], args := ds }
theorem law_lifted {C : Checked} {os : Os} {f : FuncId} {fn : Func} {s : ChangeSpec} {conds : List PathCond} {fresh handsOn : Bool} {H : Type} {enc : TypeId × Value → H} {n : Nat} {tb : TypeId}
   (own : ownKnob C.prog.godebug = none) (started : os.Started) (noInit : C.prog.inits.idxOf? f = none) (hfn : C.prog.funcs[f]? = some fn)
   (witness : ∃ (w : World) (tape : Tape) (i : Input), w.os = os ∧ (w.forCall tape i).Shaped C.prog ∧ i.vars = [] ∧ Input.okWide C.prog (w.forCall tape i) .any w.heap.size f i ∧
     s.pre6 enc C.prog fn conds false (w.forCall tape i).memory i.args ∧ ({} : Assume).holds C.prog (lone (Frame.enter C.prog f i.args .normal) [] (w.forCall tape i)))
   (laid : laidOutB C.prog = true) (says : Says s n) (hn : fn.params.size = n) (res : fn.resultTypes = #[tb]) (ht : C.prog.underlying tb = some .bool)
   (read : fn.params.toList.all (fun t => C.prog.readableRec t && decide (t < C.prog.types.size)) = true) {Qs : List (List PV → Prop)} (ops : All2 (Opn C.prog) fn.params.toList Qs) {gs : List Bool}
   (hgs : fn.params.toList.map (isAgg C.prog) = gs) (K : ArgsAll gs Qs fun args => PSpec C.prog f args (.bool true)) (gl : globsNone C.prog = true := by kernel_rfl) :
   ReturnsInHanded {} C os f .any (s.pre6 enc C.prog fn conds false) (s.post enc C.prog fn false fresh handsOn false) := by
 refine returnsInHanded_of_change_sized own started noInit hfn witness ?_
 intro W base args ds gs' before hval hW _ hreach _
 have hW' := hW
 obtain ⟨p, q, hA, hV, rfl, _, _⟩ := hW
 rw [says.1] at hV
 obtain ⟨rfl, rfl⟩ := trodVars_none hV
 simp only [List.append_nil] at hW' hreach
 subst hgs
 obtain ⟨l, hl, hlen, hall⟩ := args_open hA (fun m hm => of_decide_eq_true (List.all_eq_true.1 hreach m (weights_more hm))) (fun j t v h1 h2 => hval j t v (by simpa using h1) (by simpa using h2)) ops K
 have hlt := hW'.lt
 have hdl : ds.length = n := by rw [trodAll_len hA]; simpa using hn
 refine (hl.2 W (fun _ => False) args (globOK_none gl _ _) (by simpa using hlen) (fun j p' hp => ?_) (fun b h => h.elim)).mono fun e W' ⟨v, he, hr, hk⟩ => ?_
 · have hj : j < args.size := by have := (List.getElem?_eq_some_iff.1 hp).1; simp at hlen; omega
   have : args.getD j undef = args[j] := by simp [Array.getD_eq_getD_getElem?, hj]
   rw [this]
   exact hall j p' _ hp (by simp [hj])
 · subst he
   rw [hr.val_inv]
   refine ⟨_, rfl, ds, [], p, [], p, [], hW', ?_, ?_, ?_, hk.below.frame _, fun h => by cases h⟩
   · rw [List.append_nil, says.2 H ds hdl, res]
     exact trodAll_mk1 (shut_bool ht _)
   · rw [List.append_nil, says.2 H ds hdl]
     refine trodAll_carry laid hk.below (fun t h => ?_) hA hlt
     have := List.all_eq_true.1 read t h
     simpa using this
   · rw [List.append_nil, says.2 H ds hdl, says.1]
     rfl
end Go.Avc
/- Arithmetic of bits: what shifts, 'or', 'and', 'xor' of numbers are. Conditions: none. -/
namespace Go.Avc
theorem wB (k : IntKind) (hk : ∀ n : Int, 0 ≤ n → n < 256 → k.wrap n = n) (b : UInt8) : k.wrap (b.toNat : Int) = (b.toNat : Int) := hk _ (by omega) (by have := UInt8.toNat_lt b; omega)
theorem wB_i64 (b : UInt8) : IntKind.i64.wrap (b.toNat : Int) = (b.toNat : Int) := wB _ (fun n h1 h2 => by rw [IntKind.wrap_i64]; omega) b
theorem wB_u32 (b : UInt8) : IntKind.u32.wrap (b.toNat : Int) = (b.toNat : Int) := wB _ (fun n h1 h2 => by rw [IntKind.wrap_u32]; omega) b
theorem wrap_u64 (n : Int) : IntKind.u64.wrap n = n % 18446744073709551616 := by simp [IntKind.wrap, IntKind.bits, IntKind.signed]
theorem wB_u64 (b : UInt8) : IntKind.u64.wrap (b.toNat : Int) = (b.toNat : Int) := wB _ (fun n h1 h2 => by rw [wrap_u64]; omega) b
theorem wraps_u32 (n : Int) (h0 : 0 ≤ n) (h1 : n < 2 ^ 32) : IntKind.u32.wrap n = n := by rw [IntKind.wrap_u32]; omega
theorem wraps_i64 (n : Int) (h0 : 0 ≤ n) (h1 : n < 2 ^ 63) : IntKind.i64.wrap n = n := by rw [IntKind.wrap_i64]; omega
theorem or_nat (k : IntKind) (j : Nat) (hj : j ≤ k.bits) (hk : ∀ n : Int, 0 ≤ n → n < 2 ^ j → k.wrap n = n) {i : Nat} {x y : Nat} (hx : x % 2 ^ i = 0) (hx1 : x < 2 ^ j) (hy : y < 2 ^ i) (hij : i ≤ j) : bits .or k (x : Int) (y : Int) = ((x + y : Nat) : Int) := by
 have hle : 2 ^ i ≤ 2 ^ j := Nat.pow_le_pow_right (by decide) hij
 have := bits_join k j hj hk i (x : Int) (y : Int) (by omega) (by exact_mod_cast hx) (by exact_mod_cast hx1) (by omega) (by exact_mod_cast hy) (by exact_mod_cast Nat.lt_of_lt_of_le hy hle)
 rw [this]; simp
theorem or_u32 (i : Nat) {x y : Nat} (hx : x % 2 ^ i = 0) (hx1 : x < 4294967296) (hy : y < 2 ^ i) (hi : i ≤ 32) : bits .or .u32 (x : Int) (y : Int) = ((x + y : Nat) : Int) := or_nat .u32 32 (by decide) wraps_u32 hx hx1 hy hi
theorem or_i64 (i : Nat) {x y : Nat} (hx : x % 2 ^ i = 0) (hx1 : x < 9223372036854775808) (hy : y < 2 ^ i) (hi : i ≤ 63) : bits .or .i64 (x : Int) (y : Int) = ((x + y : Nat) : Int) := or_nat .i64 63 (by decide) wraps_i64 hx hx1 hy hi
theorem and_u8 (a b : UInt8) : bits .and .u8 (a.toNat : Int) (b.toNat : Int) = ((a &&& b).toNat : Int) := by
 rw [(bits_nat .u8 8 (by decide) wraps_u8 _ _ (UInt8.toNat_lt a) (UInt8.toNat_lt b)).1]; simp
theorem or_u8 (a b : UInt8) : bits .or .u8 (a.toNat : Int) (b.toNat : Int) = ((a ||| b).toNat : Int) := by
 rw [(bits_nat .u8 8 (by decide) wraps_u8 _ _ (UInt8.toNat_lt a) (UInt8.toNat_lt b)).2]; simp
theorem bits_xor_nat (k : IntKind) (j : Nat) (hj : j ≤ k.bits) (hk : ∀ n : Int, 0 ≤ n → n < 2 ^ j → k.wrap n = n) (a b : Nat) (ha : a < 2 ^ j) (hb : b < 2 ^ j) :
   bits .xor k a b = ((a ^^^ b : Nat) : Int) := by
 have hp : 2 ^ j ≤ 2 ^ k.bits := Nat.pow_le_pow_right (by decide) hj
 have ha' : a % 2 ^ k.bits = a := Nat.mod_eq_of_lt (Nat.lt_of_lt_of_le ha hp)
 have hb' : b % 2 ^ k.bits = b := Nat.mod_eq_of_lt (Nat.lt_of_lt_of_le hb hp)
 have cast : ∀ n : Nat, n < 2 ^ j → ((n : Nat) : Int) < 2 ^ j := fun n h => by exact_mod_cast h
 simp only [bits, BitVec.ofInt_natCast, BitVec.toNat_xor, BitVec.toNat_ofNat, ha', hb']
 exact hk _ (Int.natCast_nonneg _) (cast _ (Nat.xor_lt_two_pow ha hb))
theorem xor_u32 {a b : Nat} (ha : a < 4294967296) (hb : b < 4294967296) : bits .xor .u32 (a : Int) (b : Int) = ((a ^^^ b : Nat) : Int) := bits_xor_nat .u32 32 (by decide) wraps_u32 a b ha hb
theorem xor_u8 (a b : UInt8) : bits .xor .u8 (a.toNat : Int) (b.toNat : Int) = ((a ^^^ b).toNat : Int) := by
 rw [bits_xor_nat .u8 8 (by decide) wraps_u8 _ _ (UInt8.toNat_lt a) (UInt8.toNat_lt b)]; simp
theorem and1_u32 {a : Nat} (ha : a < 4294967296) : bits .and .u32 (a : Int) 1 = ((a % 2 : Nat) : Int) := by
 have := (bits_nat .u32 32 (by decide) wraps_u32 a 1 ha (by decide)).1
 rw [Nat.and_one_is_mod] at this
 exact this
theorem shr_nat (a n m : Nat) (h : n ≤ m) : (a : Int).fdiv (2 ^ (min (n : Int).toNat m)) = ((a / 2 ^ n : Nat) : Int) := by
 rw [Int.toNat_natCast, Nat.min_eq_left h, Int.fdiv_eq_ediv_of_nonneg _ (by exact_mod_cast Nat.zero_le (2 ^ n))]
 simp
theorem shl_u32 (b : UInt8) (n c : Nat) (hn : n ≤ 24) (hc : 2 ^ n = c) : IntKind.u32.wrap ((b.toNat : Int) * 2 ^ (min (n : Int).toNat IntKind.u32.bits)) = ((b.toNat * c : Nat) : Int) := by
 have hb : IntKind.u32.bits = 32 := rfl
 rw [Int.toNat_natCast, hb, Nat.min_eq_left (by omega), IntKind.wrap_u32]
 have h2 : (2 : Int) ^ n = (c : Int) := by rw [← hc]; simp
 rw [h2, ← Int.natCast_mul]
 have h3 : c ≤ 2 ^ 24 := by rw [← hc]; exact Nat.pow_le_pow_right (by decide) hn
 have h4 := UInt8.toNat_lt b
 have h5 : b.toNat * c ≤ 255 * 2 ^ 24 := Nat.mul_le_mul (by omega) h3
 omega
theorem shl24 (b : UInt8) : IntKind.u32.wrap ((b.toNat : Int) * 2 ^ (min (24 : Int).toNat IntKind.u32.bits)) = ((b.toNat * 16777216 : Nat) : Int) := shl_u32 b 24 _ (by decide) (by decide)
theorem shl16 (b : UInt8) : IntKind.u32.wrap ((b.toNat : Int) * 2 ^ (min (16 : Int).toNat IntKind.u32.bits)) = ((b.toNat * 65536 : Nat) : Int) := shl_u32 b 16 _ (by decide) (by decide)
theorem shl8 (b : UInt8) : IntKind.u32.wrap ((b.toNat : Int) * 2 ^ (min (8 : Int).toNat IntKind.u32.bits)) = ((b.toNat * 256 : Nat) : Int) := shl_u32 b 8 _ (by decide) (by decide)
theorem shr1_u32 (a : Nat) : (a : Int).fdiv (2 ^ (min (Int.toNat 1) IntKind.u32.bits)) = ((a / 2 : Nat) : Int) := shr_nat a 1 32 (by decide)
theorem shr8_i64 (a : Nat) : (a : Int).fdiv (2 ^ (min (Int.toNat 8) IntKind.i64.bits)) = ((a / 256 : Nat) : Int) := shr_nat a 8 64 (by decide)
theorem shl8_i64 (b : UInt8) : IntKind.i64.wrap ((b.toNat : Int) * 2 ^ (min (Int.toNat 8) IntKind.i64.bits)) = ((b.toNat * 256 : Nat) : Int) := by
 have h4 := UInt8.toNat_lt b
 have e : (2 : Int) ^ (min (Int.toNat 8) IntKind.i64.bits) = 256 := by decide
 rw [e, IntKind.wrap_i64]
 omega
theorem or24 (a b : UInt8) : bits .or .u32 ((a.toNat * 16777216 : Nat) : Int) ((b.toNat * 65536 : Nat) : Int) = ((a.toNat * 16777216 + b.toNat * 65536 : Nat) : Int) := by
 have := UInt8.toNat_lt a; have := UInt8.toNat_lt b
 exact or_u32 24 (by omega) (by omega) (by omega) (by omega)
theorem or16 (a b c : UInt8) : bits .or .u32 ((a.toNat * 16777216 + b.toNat * 65536 : Nat) : Int) ((c.toNat * 256 : Nat) : Int) = ((a.toNat * 16777216 + b.toNat * 65536 + c.toNat * 256 : Nat) : Int) := by
 have := UInt8.toNat_lt a; have := UInt8.toNat_lt b; have := UInt8.toNat_lt c
 exact or_u32 16 (by omega) (by omega) (by omega) (by omega)
theorem or8 (a b c d : UInt8) : bits .or .u32 ((a.toNat * 16777216 + b.toNat * 65536 + c.toNat * 256 : Nat) : Int) (d.toNat : Int) = ((a.toNat * 16777216 + b.toNat * 65536 + c.toNat * 256 + d.toNat : Nat) : Int) := by
 have := UInt8.toNat_lt a; have := UInt8.toNat_lt b; have := UInt8.toNat_lt c; have := UInt8.toNat_lt d
 exact or_u32 8 (by omega) (by omega) (by omega) (by omega)
theorem or8_i64 (a b : UInt8) : bits .or .i64 ((a.toNat * 256 : Nat) : Int) (b.toNat : Int) = ((a.toNat * 256 + b.toNat : Nat) : Int) := by
 have := UInt8.toNat_lt a; have := UInt8.toNat_lt b
 exact or_i64 8 (by omega) (by omega) (by omega) (by omega)
end Go.Avc
/- The steps of a walk, each as one short law. Conditions: none. -/
namespace Go.Avc
theorem lM {α β : Type _} {as : List α} (f : α → β) : (as.map f).length = as.length := List.length_map f
theorem aq {p q : Prop} (h : p) (k : q) : p ∧ q := And.intro h k
theorem oq {α : Sort _} {a : α} {q : Prop} : a = a ∨ q := Or.inl rfl
theorem nm {p : Prop} (h : p := by first | omega | (simp only [lenS]; omega) | fail) : p := h
theorem bd {p : Prop} (h : p := by first | omega | (simp only [lenS]; omega) | (simp; omega) | (simp; done) | fail) : p := h
theorem ls {p : Prop} (h : p := by first | rfl | omega | (simp; done) | (simp; omega) | fail) : p := h
theorem sc {p : Prop} (h : p := by first | rfl | (simp [cut]; done) | fail) : p := h
theorem bo {p : Prop} (h : p := by first | rfl | assumption | (simp; done) | (simp; omega) | fail) : p := h
theorem rs {p : Prop} (h : p := by first | rfl | (simp; done) | fail) : p := h
section
variable {K : Int → Prop} {A B : Prop}
theorem s1 {b : UInt8} (h : K b.toNat) : ∃ r, IntKind.i64.wrap (b.toNat : Int) = r ∧ K r := ⟨_, wB_i64 b, h⟩
theorem s2 {b : UInt8} (h : K b.toNat) : ∃ r, IntKind.u32.wrap (b.toNat : Int) = r ∧ K r := ⟨_, wB_u32 b, h⟩
theorem s3 {b : UInt8} (h : K b.toNat) : ∃ r, IntKind.u64.wrap (b.toNat : Int) = r ∧ K r := ⟨_, wB_u64 b, h⟩
theorem s4 {n : Int} (h : -9223372036854775808 ≤ n ∧ n ≤ 9223372036854775807) (k : K n) : ∃ r, IntKind.i64.wrap n = r ∧ K r := ⟨_, wI h, k⟩
variable {α : Type} {f : α → List PV} {l : List α} {M : List PV → Prop}
theorem s5 {k : Nat} (a : A) (h : k < l.length) (m : M (f l[k])) : A ∧ ∃ r, (l.map f)[((k : Nat) : Int).toNat]? = some r ∧ M r := ⟨a, _, getMapI h, m⟩
theorem s7 {bs : List UInt8} {M : List UInt8 → Prop} (m : M bs) : ∃ r, (bs.map fun b => [PV.val (.int .u8 (b.toNat : Int))]) = byteRows r ∧ M r := ⟨_, byteRows_rfl _, m⟩
end
theorem l1 {C : Nat → Option Blk} {k : IntKind} {a b : Int} (h : a = b) : SubA C (.pure (.val (.int k a))) (.pure (.val (.int k b))) := SubA.int h
theorem l6 {C : Nat → Option Blk} {k : Nat} (h : (C k).isSome = true) : SubA C (.pure (.val (.slice none 0 0))) (.lsl k 0 0) := Or.inr (Or.inr (Or.inr ⟨k, rfl, rfl, h⟩))
theorem k1 {a b : Bool} {A B : Prop} (h1 : a = b → B) (h2 : ¬ a = b → A) : bsel (a != b) A B := bsel_bne h1 h2
theorem k2 {a b : Bool} {A B : Prop} (h1 : a = b → A) (h2 : ¬ a = b → B) : bsel (a == b) A B := bsel_beq h1 h2
theorem k3 {p : Prop} [Decidable p] {A B : Prop} (h1 : p → A) (h2 : ¬ p → B) : bsel (decide p) A B := bsel_dec h1 h2
theorem k4 {p : Prop} [Decidable p] {A B : Prop} (h1 : p → B) (h2 : ¬ p → A) : bsel (!decide p) A B := bsel_ndec h1 h2
theorem k5 {b : Bool} {A B : Prop} (h1 : b = true → B) (h2 : b = false → A) : bsel (!b) A B := bsel_not h1 h2
theorem k6 {t : Bool} {A B : Prop} (h1 : t = true → A) (h2 : t = false → B) : bsel t A B := bsel_intro h1 h2
section
variable {A B C D E : Prop} {M : List PV → Prop} {L : List (List PV) → Prop} {α : Type}
end
end Go.Avc
/- Contracts with blocks: out of the conditions of a function, and at a call. Conditions: none. -/
namespace Go.Avc
open Go.RowKit
def endG (P : Program) (fn : Func) (Γ : Ctx) (s1 : St) (e : Exit) (s : St) : Prop :=
 match e with
 | .normal => resVC P s fn.results.toList fun l => Le (Ctx.plain P fn.results.size Γ.w0 Γ.X Γ.β0 Γ.fx) ⟨numE 0 l, s.blks, s.used⟩ s1
 | .ret => resVC P s fn.results.toList fun l => Le (Ctx.plain P fn.results.size Γ.w0 Γ.X Γ.β0 Γ.fx) ⟨numE 0 l, s.blks, s.used⟩ s1
 | _ => False
theorem AR.less {w : World} {A A' : Nat → Prop} {β : BM} {p : AV} {v : Value} (h : AR w A β p v) (hA : ∀ b, A' b → A b) : AR w A' β p v :=
 h.mono ⟨Nat.le_refl _, fun b _ hn => ⟨rfl, fun h' => hn (hA b h')⟩⟩ fun _ _ => rfl
theorem Rl.less {Γ : Ctx} {s : St} {tm : Array Value} {w : World} {β : BM} {X' : Nat → Prop} (h : Rl (Γ.atX X') s tm w β) {X : Nat → Prop} (hX : ∀ b, X b → X' b) : Rl (Γ.atX X) s tm w β :=
 have hA : ∀ b, Av X β b → Av X' β b := fun b hb => by
   rcases hb with hb | hb
   · exact .inl (hX b hb)
   · exact .inr hb
 have had : Ad w (Av X' β) w (Av X β) := ⟨Nat.le_refl _, fun b _ hn => ⟨rfl, fun h' => hn (hA b h')⟩⟩
 { size := h.size
   slots := fun t => (h.slots t).less hA
   blks := fun k => by
     have hb := h.blks k
     cases hs : s.blk k with
     | none =>
       rw [hs] at hb
       cases hβ : β k with
       | none => trivial
       | some bi => rw [hβ] at hb; exact hb.elim
     | some blk =>
       rw [hs] at hb
       cases hβ : β k with
       | none => rw [hβ] at hb; exact hb.elim
       | some bi =>
         rw [hβ] at hb
         exact BOK.mono had hb (fun _ _ => rfl) fun _ => rfl
   inj := h.inj
   lt := h.lt
   notX := fun k bi hb hv hx => h.notX k bi hb hv (hX _ hx)
   own := h.own
   fixd := h.fixd
   used1 := h.used1
   used2 := h.used2
   keep := h.keep
   Xlt := fun b hb => h.Xlt b (hX b hb)
   glob := h.glob.mono had }
section
variable {Γ : Ctx} {s : St} {a : Act} {w : World} {β : BM}
theorem resVC_keys (h : Rl Γ s a.tmps w β) : ∀ {l : List ResultVar} {K : List AV → Prop}, resVC Γ.P s l K →
   ∃ (vs : List AV) (us : List Value), K vs ∧ vs.length = us.length ∧ us.length = l.length ∧ (∀ (j : Nat) (v : AV), vs[j]? = some v → AR w (Av Γ.X β) β v (us.getD j undef) ∧ ∀ k ∈ v.keys, k ∈ s.used) ∧
     ∀ (j : Nat) (x : ResultVar), l[j]? = some x → (resSem a.tmps x).run Γ.P w = .ok (us.getD j undef) w
 | [], K, hK => ⟨[], [], hK, rfl, rfl, by simp, by simp⟩
 | .tmp t :: l, K, hK => by
   obtain ⟨vs, us, h1, h2, h3, h4, h5⟩ := resVC_keys h (l := l) hK
   refine ⟨_, a.tmps.getD t undef :: us, h1, by simp [h2], by simp [h3], fun j v hj => ?_, fun j x hj => ?_⟩
   · cases j with
     | zero => simp at hj; subst hj; exact ⟨h.slots t, h.used1 t⟩
     | succ j => simpa using h4 j v (by simpa using hj)
   · cases j with
     | zero => simp at hj; subst hj; rfl
     | succ j => simpa using h5 j x (by simpa using hj)
 | .cell x t :: l, K, hK => by
   obtain ⟨v, u, hv, hr, hva, hvk⟩ := load_sound h (h.slots x) hK
   obtain ⟨vs, us, h1, h2, h3, h4, h5⟩ := resVC_keys h (l := l) hv
   refine ⟨_, u :: us, h1, by simp [h2], by simp [h3], fun j v' hj => ?_, fun j y hj => ?_⟩
   · cases j with
     | zero => simp at hj; subst hj; exact ⟨hva, hvk⟩
     | succ j => simpa using h4 j v' (by simpa using hj)
   · cases j with
     | zero =>
       simp at hj; subst hj
       simp only [List.getD_cons_zero]
       cases hx : a.tmps.getD x undef with
       | pointer p =>
         cases p with
         | some ad => rw [hx] at hr; simpa [Instr.loadAt, Instr.sureAddr, asAddr, resSem, hx] using hr
         | none => rw [hx] at hr; simp [Instr.loadAt, Instr.sureAddr] at hr
       | _ => rw [hx] at hr; simp [Instr.loadAt, Instr.sureAddr] at hr
     | succ j => simpa using h5 j y (by simpa using hj)
end
theorem GSpec.of_vc {P : Program} {f : FuncId} {fn : Func} {c : Code} {m : Nat} {s0 s1 : St} {fx : List Nat} (more : Ctx → St → Oper → Kont → Prop) (hmore : ∀ Γ, MoreOK (more Γ) Γ) (hf : P.funcs[f]? = some fn) (hb : fn.body = some c)
   (hcall : ∀ (vs : Array Value) (w : World), (callFunc f vs).run P w = .ok (.enter f vs) w) (hl : m ≤ fn.ntmps)
   (h : ∀ Γ : Ctx, Γ.P = P → Γ.N = fn.ntmps → Γ.fx = fx → Γ.y.on = false → Γ.pk = none → vcCode (more Γ) Γ Fence.wide 0 c s0 (endG P fn Γ s1)) : GSpec P f m s0 fx fn.results.size s1 := by
 refine ⟨hcall, fun w X β0 vs hR0 => ?_⟩
 refine (callsIn_wide (n := 0)).1 (callsIn_of_wp_marks hf hb trivial ?_)
 let Γ : Ctx := Ctx.plain P fn.ntmps w X β0 fx
 have hs := code_sound (hmore Γ) FOK.wide c (h Γ rfl rfl rfl rfl rfl)
 have hsz : vs.size = m := hR0.size
 have hR : R Γ s0 { tmps := vs ++ Array.replicate (fn.ntmps - vs.size) undef, defers := [] } w := by
   refine ⟨X, β0, ?_, fun _ h => h, fun _ _ h => h, (fun h => by cases h), (fun h => by cases h), ⟨[], rfl, List.nodup_nil, fun d hd => by cases hd⟩⟩
   exact
   { hR0 with
     size := by show (vs ++ Array.replicate (fn.ntmps - vs.size) undef).size = fn.ntmps; rw [Array.size_append, Array.size_replicate]; omega
     slots := fun t => by
       show AR w (Av X β0) β0 _ _
       rw [frame_getD]; exact hR0.slots t }
 refine wpIn_mono (hs _ w hR) ?_
 rintro e a' w' ⟨s', hK | ⟨_, _, hpk, _⟩, hr⟩
 case inr => cases hpk
 have fin : (resVC P s' fn.results.toList fun l => Le (Ctx.plain P fn.results.size w X β0 fx) ⟨numE 0 l, s'.blks, s'.used⟩ s1) →
     LeavesInM Fence.wide 0 P fn a'.tmps (fun e w'' => ∃ us β', e = .returned (if us.size = 1 then us.getD 0 undef else .tuple us) ∧ Rl (Ctx.plain P fn.results.size w X β0 fx) s1 us w'' β') a'.defers .returning w' := fun hK => by
   refine hr.leave rfl rfl fun X' β w' hr hsub hold _ => ?_
   obtain ⟨l, us, hLe, h2, h3, h4, h5⟩ := resVC_keys (Γ := Γ.atX X') hr hK
   have hm := mapM_run (P := P) (w := w') (g := resSem a'.tmps) h3.symm h5
   have hres : (results fn a'.tmps).run P w' = .ok (if us.toArray.size = 1 then us.toArray.getD 0 undef else .tuple us.toArray) w' := by
     rw [results_eq, Sem.run_bind, ← Array.toArray_toList (xs := fn.results)]
     rw [List.mapM_toArray]
     simp only [Sem.run_map, hm]
     simp [Result.andThen]
     split
     · rename_i h1
       have h1' : us.length = 1 := h1
       match us, h1' with
       | [u], _ => simp
     · rfl
   have hR1 : R (Ctx.plain P fn.results.size w X β0 fx) ⟨numE 0 l, s'.blks, s'.used⟩ { tmps := us.toArray, defers := [] } w' := by
     refine ⟨X', β, ?_, hsub, hold, (fun h => by cases h), (fun h => by cases h), ⟨[], rfl, List.nodup_nil, fun d hd => by cases hd⟩⟩
     have hget : ∀ t, St.get ⟨numE 0 l, s'.blks, s'.used⟩ t = (l[t]?).getD .junk := fun t => by simp [St.get, numE_get]
     exact
     { hr with
       size := by simp [h3]
       slots := fun t => by
         rw [hget]
         cases hl : l[t]? with
         | none => exact .junk _
         | some v =>
           have := (h4 t v hl).1
           simpa [List.getD, Array.getD_eq_getD_getElem?] using this
       used1 := fun t k hk => by
         rw [hget] at hk
         cases hl : l[t]? with
         | none => rw [hl] at hk; simp [AV.keys] at hk
         | some v => rw [hl] at hk; exact (h4 t v hl).2 k hk }
   obtain ⟨X2, β', hR2, g2⟩ := hLe _ _ hR1
   refine ⟨_, hres, us.toArray, β', rfl, ?_⟩
   exact hR2.less g2.sub
 cases e with
 | normal => exact fin hK
 | ret => exact fin hK
 | exit id => exact hK.elim
 | goto l => exact hK.elim
 | panic c => exact hK.elim
 | outgrown => exact hK.elim
end Go.Avc
/- Iterators, and loops over them. Conditions: none. -/
namespace Go.Avc
open Go.RowKit
def ISpec (P : Program) (f : FuncId) (caps : List PV) (xs : List (List PV)) : Prop :=
 (∀ (vs : Array Value) (w : World), (callFunc f vs).run P w = .ok (.enter f vs) w) ∧
 f < bmB ∧ ∀ (w : World) (X : Nat → Prop) (cv : Array Value) (y : Yl P), GlobOK P w X → y.on = true → y.rd = false → y.xs = xs → cv.size = caps.length → (∀ (j : Nat) (p : PV), caps[j]? = some p → PR w X p (cv.getD j undef)) → (∀ b, X b → b < w.heap.size) →
   y.J 0 false X (fun _ => False) w →
   Calls P f (#[.func (.yield y.l) #[] #[]] ++ cv) w fun e w' => (∃ v, e = .returned v) ∧ ∃ i t X' E, (t = false → i = xs.length) ∧ y.J i t X' E w'
theorem needY {xs xs' : List (List PV)} {i : Nat} {ps row : List PV} {B : Prop} (hx : xs = xs') (h : xs'[i]? = some row) (hs : SubL ps row) (k : B) : Need (∃ row, xs[i]? = some row ∧ SubL ps row) B := ⟨⟨row, hx ▸ h, hs⟩, k⟩
def startI (l N : Nat) (caps : List PV) : St := ⟨(0, .pure (.val (.func (.yield l) #[] #[]))) :: (N, .gh 0 false) :: argsEnv 1 caps, [], []⟩
def endI (n : Nat) (N : Nat) (e : Exit) (s : St) : Prop := match e with
 | .normal => ∃ i t, s.get N = .gh i t ∧ (t = false → i = n)
 | .ret => ∃ i t, s.get N = .gh i t ∧ (t = false → i = n)
 | _ => False
open Classical in
noncomputable def bmOf (X : Nat → Prop) : BM := fun b => if X b then some ⟨b, 1, 0, 0, false⟩ else none
theorem ex_bmOf {X : Nat → Prop} {b : Nat} (h : X b) : Ex (bmOf X) b := ⟨b, ⟨b, 1, 0, 0, false⟩, by simp [bmOf, h], rfl, rfl⟩
theorem ISpec.of_vc {P : Program} {f : FuncId} {fn : Func} {c : Code} {caps : List PV} {xs : List (List PV)} (more : Ctx → St → Oper → Kont → Prop) (hmore : ∀ Γ, MoreOK (more Γ) Γ) (hf : P.funcs[f]? = some fn) (hb : fn.body = some c)
   (hcall : ∀ (vs : Array Value) (w : World), (callFunc f vs).run P w = .ok (.enter f vs) w) (hl : 1 + caps.length ≤ fn.ntmps) (hres : fn.results = #[])
   (h : ∀ Γ : Ctx, Γ.P = P → Γ.N = fn.ntmps → Γ.fx = [] → Γ.pk = none → Γ.y.on = true → Γ.y.xs = xs → vcCode (more Γ) Γ Fence.wide 0 c (startI Γ.y.l Γ.N caps) (endI xs.length Γ.N)) (hfB : f < bmB := by decide) : ISpec P f caps xs := by
 refine ⟨hcall, hfB, fun w X cv y hgl hon hrd hxs hsz hv hX hJ => ?_⟩
 refine (callsIn_wide (n := 0)).1 (callsIn_of_wp_marks hf hb trivial ?_)
 let Γ : Ctx := ⟨P, fn.ntmps, w, X, bmOf X, [], y, (fun _ b hb => ex_bmOf hb), none, []⟩
 have hs := code_sound (hmore Γ) FOK.wide c (h Γ rfl rfl rfl rfl hon hxs)
 have hR : R Γ (startI y.l fn.ntmps caps) { tmps := (#[Value.func (.yield y.l) #[] #[]] ++ cv) ++ Array.replicate (fn.ntmps - (#[Value.func (.yield y.l) #[] #[]] ++ cv).size) undef, defers := [] } w := by
   have hget : ∀ t, (startI y.l fn.ntmps caps).get t = if t = 0 then .pure (.val (.func (.yield y.l) #[] #[])) else if t = fn.ntmps then .gh 0 false else (lk (argsEnv 1 caps) t).getD .junk := fun t => by
     simp only [startI, St.get, lk_cons]
     by_cases e : 0 = t
     · simp [← e]
     · rw [if_neg e, if_neg (Ne.symm e)]
       by_cases e' : fn.ntmps = t
       · simp [e']
       · rw [if_neg e', if_neg (Ne.symm e')]
   have hN : (startI y.l fn.ntmps caps).get fn.ntmps = .gh 0 false := by rw [hget, if_neg (by omega), if_pos rfl]
   refine ⟨X, fun _ => none, ?_, fun _ h => h, fun _ _ h => h, fun _ i t hi => ?_, fun _ => rfl, ⟨[], rfl, List.nodup_nil, fun d hd => by cases hd⟩⟩
   · have hk0 : ∀ t, ∀ k ∈ ((startI y.l fn.ntmps caps).get t).keys, False := fun t k hk => by
       rw [hget] at hk
       split at hk
       · simp [AV.keys] at hk
       · split at hk
         · simp [AV.keys] at hk
         · cases hl : lk (argsEnv 1 caps) t with
           | none => rw [hl] at hk; simp [AV.keys] at hk
           | some v =>
             obtain ⟨p, _, _, rfl⟩ := argsEnv_get hl
             rw [hl] at hk; simp [AV.keys] at hk
     refine
     { size := by show (_ ++ Array.replicate _ undef).size = fn.ntmps; simp; omega
       slots := fun t => ?_
       blks := fun k => by simp [St.blk, startI, lk, BO]
       inj := fun k k' bi bi' hk => by cases hk
       lt := fun k bi hk => by cases hk
       notX := fun k bi hk => by cases hk
       own := fun k bi hk => by cases hk
       fixd := fun k hk => by cases hk
       used1 := fun t k hk => (hk0 t k hk).elim
       used2 := fun k b hk => by simp [St.blk, startI, lk] at hk
       keep := Kp.refl _ _
       Xlt := hX
       glob := hgl.mono ⟨Nat.le_refl _, fun b _ hb => ⟨rfl, by
         rintro (hx | ⟨k, bi, hk, _⟩)
         · exact hb hx
         · cases hk⟩⟩ }
     show AR w (Av X fun _ => none) _ _ _
     rw [hget, frame_getD]
     split
     · rename_i e; subst e
       have : (#[Value.func (.yield y.l) #[] #[]] ++ cv).getD 0 undef = .func (.yield y.l) #[] #[] := by
         rw [Array.getD_eq_getD_getElem?, Array.getElem?_append_left (by simp)]; rfl
       rw [this]
       exact .pure _ _ (.val _)
     · split
       · exact .gh _ _ _
       · cases hl : lk (argsEnv 1 caps) t with
         | none => exact .junk _
         | some v =>
           obtain ⟨p, h1, h2, rfl⟩ := argsEnv_get hl
           have e2 : (#[Value.func (.yield y.l) #[] #[]] ++ cv).getD t undef = cv.getD (t - 1) undef := by
             rw [Array.getD_eq_getD_getElem?, Array.getD_eq_getD_getElem?, Array.getElem?_append_right (by simp; omega)]
             simp
           rw [e2]
           refine .pure _ _ ((hv _ p h1).mono ⟨Nat.le_refl _, fun b _ hb => ⟨rfl, ?_⟩⟩)
           rintro (hx | ⟨k, bi, hk, _⟩)
           · exact hb hx
           · cases hk
   · have hi' : (startI y.l fn.ntmps caps).get fn.ntmps = .gh i t := hi
     rw [hN] at hi'
     cases hi'
     refine y.stable 0 false X _ _ w w hJ (Kp.refl _ _) ?_
     rintro b ⟨k, bi, hk, _⟩
     cases hk
 refine wpIn_mono (hs _ w hR) ?_
 rintro e a' w' ⟨s', hK | ⟨_, _, hpk, _⟩, hr⟩
 case inr => cases hpk
 have fin : (∃ i t, s'.get fn.ntmps = .gh i t ∧ (t = false → i = xs.length)) → LeavesInM Fence.wide 0 P fn a'.tmps (fun e w'' => (∃ v, e = .returned v) ∧ ∃ i t X' E, (t = false → i = xs.length) ∧ y.J i t X' E w'') a'.defers .returning w' := by
   rintro ⟨i, t, hi, hit⟩
   refine hr.leave hrd rfl fun X' β w'' hr' _ _ hg => ?_
   refine ⟨.tuple #[], by rw [results_eq, hres]; simp, ⟨_, rfl⟩, i, t, X', _, hit, hg hon i t hi⟩
 cases e with
 | normal => exact fin hK
 | ret => exact fin hK
 | exit id => exact hK.elim
 | goto l => exact hK.elim
 | panic c => exact hK.elim
 | outgrown => exact hK.elim
theorem Rl.turn {Γ : Ctx} {s : St} {tm : Array Value} {w w' : World} {β : BM} {X' E : Nat → Prop} (h : Rl Γ s tm w β) (hk : Kp E w w') (hE : ∀ b, E b → Γ.X b) (hX' : ∀ b, b < w.heap.size → X' b → Γ.X b) (hlt : ∀ b, X' b → b < w'.heap.size) :
   Rl (Ctx.plain Γ.P Γ.N w' X' β Γ.fx) s tm w' β := by
 have h0 : Rl ((Ctx.plain Γ.P Γ.N { w with heap := #[] } Γ.X β Γ.fx).atX Γ.X) s tm w β :=
   { h with own := fun k bi _ _ => .inl (Nat.zero_le _), fixd := fun _ _ => rfl, keep := ⟨rfl, tpr, rfl, Nat.zero_le _, fun b hb => absurd hb (Nat.not_lt_zero b)⟩ }
 have h1 := h0.others (X' := X') hk hE (fun b hb => absurd hb (Nat.not_lt_zero b)) hX' hlt
 exact { h1 with own := fun k bi hb hv => .inr ⟨k, bi, hb, hv, rfl⟩, fixd := fun _ _ => rfl, keep := Kp.refl _ _ }
def paramsSt : List Tmp → List PV → St → St
 | t :: ts, p :: ps, s => paramsSt ts ps (s.put t (.pure p))
 | _, _, s => s
def allLt (N : Nat) : List Nat → Bool
 | [] => true
 | t :: l => bif Nat.blt t N then allLt N l else false
theorem paramsRl {Γ : Ctx} {w : World} {β : BM} : ∀ {ts : List Tmp} {row : List PV} {us : List Value} {s : St} {tm : Array Value}, Rl Γ s tm w β → allLt Γ.N ts = true → row.length = us.length → (∀ (j : Nat) (p : PV), row[j]? = some p → PR w (Av Γ.X β) p (us.getD j undef)) →
   Rl Γ (paramsSt ts row s) ((ts.zip us).foldl (fun t (p, v) => t.setIfInBounds p v) tm) w β
 | [], row, us, s, tm, h, _, _, _ => by simpa [paramsSt] using h
 | t :: ts, [], [], s, tm, h, _, _, _ => by simpa [paramsSt] using h
 | t :: ts, [], u :: us, _, _, _, _, hl, _ => by simp at hl
 | t :: ts, p :: row, [], _, _, _, _, hl, _ => by simp at hl
 | t :: ts, p :: row, u :: us, s, tm, h, ht, hl, hp => by
   simp only [allLt] at ht
   cases hb : Nat.blt t Γ.N with
   | false => rw [hb] at ht; cases ht
   | true =>
     rw [hb] at ht
     simp only [paramsSt, List.zip_cons_cons, List.foldl_cons]
     refine paramsRl (h.put (by simpa [Nat.blt_eq] using hb) (.pure _ _ (hp 0 p rfl)) (by simp [AV.keys])) (by simpa using ht) (by simpa using hl) fun j q hj => ?_
     simpa using hp (j + 1) q (by simpa using hj)
def roundEnd (K : Exit → St → Prop) (env : List (Nat × AV)) (Γ : Ctx) (B : List (Nat × Option Blk)) (U : List Nat) (ok : Prop) (e : Exit) (s : St) : Prop := match e with
 | .normal => Both (Le Γ ⟨[], s.blks, s.used⟩ ⟨[], B, U⟩) ok
 | .ret => subB (keysE env) s.used = true ∧ K .ret ⟨env, s.blks, s.used⟩
 | .exit id => subB (keysE env) s.used = true ∧ K (.exit id) ⟨env, s.blks, s.used⟩
 | _ => False
def normalK (C : St → Prop) (e : Exit) (s : St) : Prop := match e with
 | .normal => C s
 | _ => False
section
variable {Γ : Ctx} {env : List (Nat × AV)} {fx' : List Nat} {w W : World} {X Xc E : Nat → Prop} {β β' : BM} {tm : Array Value} {D l : Nat}
structure Side (Γ : Ctx) (fx' : List Nat) (w : World) (X : Nat → Prop) (β : BM) (D l : Nat) (s : St) (tm : Array Value) (Xc E : Nat → Prop) (W : World) (β' : BM) : Prop where
 rl : Rl (Ctx.plain Γ.P Γ.N w (fun b => X b ∨ b = D ∨ b = l ∨ E b) β fx') s tm W β'
 xc : ∀ b, (X b ∨ b = D ∨ b = l) → Xc b
 live : ∀ k bi, β' k = some bi → bi.virt = false → Xc bi.b
 lt : ∀ b, Xc b → b < W.heap.size ∧ ¬ E b
 e : ∀ b, E b → w.heap.size + 2 ≤ b ∧ b < W.heap.size
 sz : w.heap.size + 2 ≤ W.heap.size
 dd : W.heap[D]? = some (.deferred (some []))
theorem Side.stable {s : St} {E' : Nat → Prop} {W' : World} (hD : D = w.heap.size) (hl : l = w.heap.size + 1) (h : Side Γ fx' w X β D l s tm Xc E W β') (hX : ∀ b, X b → b < w.heap.size) (hk : Kp E W W') (hE : ∀ b, E' b → (E b ∨ W.heap.size ≤ b) ∧ b < W'.heap.size) :
   Side Γ fx' w X β D l s tm Xc E' W' β' ∧ W'.heap[l]? = W.heap[l]? := by
 have hnE : ∀ b, b < w.heap.size + 2 → ¬ E b := fun b hb he => by have := (h.e b he).1; omega
 have hs := h.sz
 have hsz := hk.size
 refine ⟨⟨?_, h.xc, h.live, fun b hb => ⟨Nat.lt_of_lt_of_le (h.lt b hb).1 hk.size, fun he => ?_⟩, fun b hb => ⟨?_, (hE b hb).2⟩, by omega, (hk.block D (by omega) (hnE D (by omega))).trans h.dd⟩, hk.block l (by omega) (hnE l (by omega))⟩
 · refine Rl.others (Γ := Ctx.plain Γ.P Γ.N w X β fx') h.rl hk (fun b hb => .inr (.inr (.inr hb))) (fun b hb he => absurd he (hnE b (by have : b < w.heap.size := hb; omega))) (fun b hb hx => ?_) (fun b hx => ?_)
   · rcases hx with hx | hx | hx | hx
     · exact .inl hx
     · exact .inr (.inl hx)
     · exact .inr (.inr (.inl hx))
     · rcases (hE b hx).1 with he | he
       · exact .inr (.inr (.inr he))
       · omega
   · rcases hx with hx | hx | hx | hx
     · have := hX b hx; omega
     · omega
     · omega
     · exact (hE b hx).2
 · rcases (hE b he).1 with h1 | h1
   · exact (h.lt b hb).2 h1
   · have := (h.lt b hb).1; omega
 · rcases (hE b hb).1 with h1 | h1
   · exact (h.e b h1).1
   · omega
theorem Side.after {B U : _} {s2 : St} {a2 : Act} {W1 W2 w3 w4 : World} {X1 : Nat → Prop} {β1 : BM} {o : Obj} {s1 : St} {tm1 : Array Value} {s : St} (hs0 : s = ⟨env, B, U⟩) (hD : D = w.heap.size) (hl : l = w.heap.size + 1) (hX : ∀ b, X b → b < w.heap.size) (hkf : ∀ k ∈ keysE env, k ∈ fx')
   (h : Side Γ fx' w X β D l s tm Xc E W β') (h1 : Rl (Ctx.plain Γ.P Γ.N W X1 β' fx') s1 tm1 W1 β1) (hX1 : ∀ b, (X b ∨ b = D ∨ b = l ∨ E b) → X1 b) (o1 : Obj) (hW2 : W2 = W1.putObj l o1)
   (hR : R (Ctx.inRd Γ.P Γ.N W2 X1 β1 fx') s2 a2 w3) (hsu : ∀ k ∈ keysE env, k ∈ s2.used) (hw4 : w4 = w3.putObj l o) :
   ∃ β4, Side Γ fx' w X β D l ⟨env, s2.blks, s2.used⟩ tm (fun b => Xc b ∨ (W.heap.size ≤ b ∧ b < w4.heap.size)) E w4 β4 ∧ Kp Xc W w4 := by
 subst hs0
 obtain ⟨X3, β3, h3, g3⟩ := hR
 have hs := h.sz
 have z1 := h1.keep.size
 have z2 : W2.heap.size = W1.heap.size := by rw [hW2, World.putObj_size]
 have z3 := h3.keep.size
 have z4 : w4.heap.size = w3.heap.size := by rw [hw4, World.putObj_size]
 have z1' : W.heap.size ≤ W1.heap.size := z1
 have z3' : W2.heap.size ≤ w3.heap.size := z3
 -- whose the live blocks are
 have own1 : ∀ b, Ex β1 b → W.heap.size ≤ b ∨ Ex β' b := by
   rintro b ⟨k, bi, hk, hv, rfl⟩
   exact h1.own k bi hk hv
 have own3 : ∀ b, Ex β3 b → W.heap.size ≤ b ∨ Ex β' b := by
   rintro b ⟨k, bi, hk, hv, rfl⟩
   rcases h3.own k bi hk hv with h | h
   · have : W2.heap.size ≤ bi.b := h
     exact .inl (by omega)
   · exact own1 _ h
 have kps : Kp (fun b => b = l) w3 w4 := by rw [hw4]; exact kp_putObj o _ rfl
 have hkp : Kp (fun b => Ex β' b ∨ b = l) W w4 := by
   have p2 : Kp (fun b => b = l) W1 W2 := by rw [hW2]; exact kp_putObj o1 _ rfl
   refine ⟨kps.os.trans (h3.keep.os.trans (p2.os.trans h1.keep.os)), kps.tape.trans (h3.keep.tape.trans (p2.tape.trans h1.keep.tape)), kps.output.trans (h3.keep.output.trans (p2.output.trans h1.keep.output)), by omega, fun b hb hn => ?_⟩
   have hnl : ¬ b = l := fun e => hn (.inr e)
   have hn1 : ¬ Ex β1 b := fun he => by
     rcases own1 b he with h | h
     · omega
     · exact hn (.inl h)
   exact (kps.block b (by omega) hnl).trans ((h3.keep.block b (by show b < W2.heap.size; omega) hn1).trans ((p2.block b (by omega) hnl).trans (h1.keep.block b hb fun he => hn (.inl he))))
 have hXa : ∀ b, (X b ∨ b = D ∨ b = l ∨ E b) → X3 b := fun b hb => g3.sub b (hX1 b hb)
 have hm := Rl.turn (X' := fun b => X b ∨ b = D ∨ b = l ∨ E b) h3 kps (fun b hb => hXa b (.inr (.inr (.inl hb)))) (fun b _ hb => hXa b hb) (fun b hb => by
   rcases hb with hb | hb | hb | hb
   · have := hX b hb; omega
   · omega
   · omega
   · have := (h.e b hb).2; omega)
 have hlive : ∀ k bi, β3 k = some bi → bi.virt = false → Xc bi.b ∨ (W.heap.size ≤ bi.b ∧ bi.b < w4.heap.size) := fun k bi hk hv => by
   rcases own3 bi.b ⟨k, bi, hk, hv, rfl⟩ with h' | ⟨j, bj, hj, hvj, e⟩
   · exact .inr ⟨h', hm.lt k bi hk hv⟩
   · rw [← e]; exact .inl (h.live j bj hj hvj)
 have hβ : ∀ k ∈ fx', β3 k = β' k := fun k hk => (h3.fixd k hk).trans (h1.fixd k hk)
 have hD4 : w4.heap[D]? = some (.deferred (some [])) := by
   refine (hkp.block D (by omega) ?_).trans h.dd
   rintro (⟨k, bi, hk, hv, e⟩ | e)
   · exact h.rl.notX k bi hk hv (.inr (.inl e))
   · omega
 refine ⟨β3, ⟨?_, fun b hb => .inl (h.xc b hb), hlive, fun b hb => ?_, fun b hb => ⟨(h.e b hb).1, by have := (h.e b hb).2; omega⟩, by omega, hD4⟩, ⟨hkp.os, hkp.tape, hkp.output, hkp.size, fun b hb hn => hkp.block b hb ?_⟩⟩
 · have hav : Ad W (Av (fun b => X b ∨ b = D ∨ b = l ∨ E b) β') w4 (Av (fun b => X b ∨ b = D ∨ b = l ∨ E b) β3) := ⟨by omega, fun b hb hA => ⟨hkp.block b hb (by
     rintro (he | he)
     · exact hA (.inr he)
     · exact hA (.inl (.inr (.inr (.inl he))))), fun hA' => hA (by
     rcases hA' with hA' | hA'
     · exact .inl hA'
     · rcases own3 b hA' with h' | h'
       · omega
       · exact .inr h')⟩⟩
   exact
   { size := h.rl.size
     slots := fun t => by
       have ht := h.rl.slots t
       refine AR.mono hav ht fun k hk => hβ k (hkf k ?_)
       unfold St.get at hk
       cases hl : lk env t with
       | none => rw [hl] at hk; simp [AV.keys] at hk
       | some v => rw [hl] at hk; exact lk_keysE hl k hk
     blks := hm.blks
     inj := hm.inj
     lt := hm.lt
     notX := hm.notX
     own := fun k bi hk hv => by
       rcases own3 bi.b ⟨k, bi, hk, hv, rfl⟩ with h' | ⟨j, bj, hj, hvj, e⟩
       · exact .inl (by show w.heap.size ≤ bi.b; omega)
       · have := h.rl.own j bj hj hvj
         rwa [e] at this
     fixd := fun k hk => (hβ k hk).trans (h.rl.fixd k hk)
     used1 := fun t k hk => by
       unfold St.get at hk
       cases hl : lk env t with
       | none => simp [hl, AV.keys] at hk
       | some v => simp only [hl, Option.getD_some] at hk; exact hsu k (lk_keysE hl k hk)
     used2 := hm.used2
     keep := ⟨hkp.os.trans h.rl.keep.os, hkp.tape.trans h.rl.keep.tape, hkp.output.trans h.rl.keep.output, by show w.heap.size ≤ w4.heap.size; omega, fun b hb hn => by
       have hb' : b < w.heap.size := hb
       refine (hkp.block b (by omega) ?_).trans (h.rl.keep.block b hb hn)
       rintro (⟨k, bi, hk, hv, e⟩ | e)
       · rcases h.rl.own k bi hk hv with h' | h'
         · have : w.heap.size ≤ bi.b := h'
           omega
         · rw [e] at h'; exact hn h'
       · omega⟩
     Xlt := hm.Xlt
     glob := hm.glob }
 · rcases hb with hb | ⟨hb, hb'⟩
   · exact ⟨by have := (h.lt b hb).1; omega, (h.lt b hb).2⟩
   · exact ⟨hb', fun he => by have := (h.e b he).2; omega⟩
 · rintro (⟨k, bi, hk, hv, e⟩ | e)
   · rw [← e] at hn; exact hn (h.live k bi hk hv)
   · exact hn (h.xc b (.inr (.inr e)))
theorem R.noenv {Γ : Ctx} {s : St} {a : Act} {w : World} (h : R Γ s a w) : R Γ ⟨[], s.blks, s.used⟩ a w := by
 obtain ⟨X, β, h, g⟩ := h
 refine ⟨X, β, { h with slots := fun t => .junk _, used1 := fun t k hk => by simp [St.get, lk, AV.keys] at hk }, g.sub, g.old, fun _ i t hi => by simp [St.get, lk] at hi, g.lone, g.marks⟩
end
section
variable {Γ : Ctx} {env : List (Nat × AV)} {fx' : List Nat} {w : World} {X : Nat → Prop} {β : BM} {tm : Array Value} {D l : Nat} {B : Nat → List (Nat × Option Blk)} {U : Nat → List Nat} {ok : Nat → Prop} {rec : LoopState → Option Code → Loop} {K : Exit → St → Prop}
def SideJ (Γ : Ctx) (fx' : List Nat) (w : World) (X : Nat → Prop) (β : BM) (D l : Nat) (rec : LoopState → Option Code → Loop) (env : List (Nat × AV)) (B : Nat → List (Nat × Option Blk)) (U : Nat → List Nat) (ok : Nat → Prop) (K : Exit → St → Prop) (tm : Array Value)
   (i : Nat) (t : Bool) (Xc E : Nat → Prop) (W : World) : Prop := ∃ β', match t with
   | false => ok i ∧ Side Γ fx' w X β D l ⟨env, B i, U i⟩ tm Xc E W β' ∧ W.heap[l]? = some (.loop (rec .ready none))
   | true => ∃ (c : Code) (e : Exit) (s2 : St), ((c = Code.ret ∧ e = Exit.ret) ∨ ∃ id, c = Code.exit id ∧ e = Exit.exit id) ∧ K e ⟨env, s2.blks, s2.used⟩ ∧ Side Γ fx' w X β D l ⟨env, s2.blks, s2.used⟩ tm Xc E W β' ∧ W.heap[l]? = some (.loop (rec .done (some c)))
theorem SideJ.stable (hD : D = w.heap.size) (hl : l = w.heap.size + 1) (hX : ∀ b, X b → b < w.heap.size) {i : Nat} {t : Bool} {Xc E E' : Nat → Prop} {W W' : World} (hJ : SideJ Γ fx' w X β D l rec env B U ok K tm i t Xc E W) (hk : Kp E W W') (hE : ∀ b, E' b → (E b ∨ W.heap.size ≤ b) ∧ b < W'.heap.size) :
   SideJ Γ fx' w X β D l rec env B U ok K tm i t Xc E' W' := by
 obtain ⟨β', hJ⟩ := hJ
 cases t with
 | false =>
   obtain ⟨ho, hs, hl'⟩ := hJ
   obtain ⟨g1, g2⟩ := hs.stable hD hl hX hk hE
   exact ⟨β', ho, g1, g2.trans hl'⟩
 | true =>
   obtain ⟨c, e, s2, hc, hKe, hs, hl'⟩ := hJ
   obtain ⟨g1, g2⟩ := hs.stable hD hl hX hk hE
   exact ⟨β', c, e, s2, hc, hKe, g1, g2.trans hl'⟩
theorem SideJ.round {ps : Array Tmp} {assign body : Code} {fn : FuncId} {xs : List (List PV)} (hD : D = w.heap.size) (hl : l = w.heap.size + 1) (hX : ∀ b, X b → b < w.heap.size) (k2 : ∀ k ∈ keysE env, k ∈ fx') (k3 : ∀ i, ∀ k ∈ fx', k ∈ U i)
   (c4 : allLt Γ.N ps.toList = true) (c5 : ∀ (i : Nat) (row : List PV), xs[i]? = some row → row.length = ps.size)
   (hr1 : (rec .ready none).fn = fn) (hr2 : (rec .ready none).tmps = tm) (hr3 : (rec .ready none).params = ps) (hr4 : (rec .ready none).assign = assign) (hr5 : (rec .ready none).body = body) (hr6 : (rec .ready none).state = .ready)
   (hr7 : ∀ jump : Option Code, some (Obj.loop { ({ rec .ready none with state := .busy } : Loop) with state := if jump.isNone then .ready else .done, pending := jump }) = some (.loop (rec (if jump.isNone then .ready else .done) jump)))
   (hround : ∀ Γ1 : Ctx, Γ1.P = Γ.P → Γ1.N = Γ.N → Γ1.fx = fx' → Γ1.y.on = false → Γ1.pk = none → ∀ (l i : Nat) (row : List PV), xs[i]? = some row → ok i →
     Wp Γ1 (Fence.wide.inRound l) 0 assign (paramsSt ps.toList row ⟨env, B i, U i⟩) (normalK fun s1 =>
       ∀ Γ2 : Ctx, Γ2.P = Γ.P → Γ2.N = Γ.N → Γ2.fx = fx' → Γ2.y.on = false → Γ2.pk = none → Wp Γ2 (Fence.wide.inRound l) 0 body s1 (roundEnd K env Γ2 (B (i + 1)) (U (i + 1)) (ok (i + 1)))))
   {i : Nat} {row : List PV} {Xc E : Nat → Prop} {W : World} {args : Array Value} (hrow : xs[i]? = some row) (hJ : SideJ Γ fx' w X β D l rec env B U ok K tm i false Xc E W) (hsz : args.size = row.length)
   (hpr : ∀ (j : Nat) (p : PV), row[j]? = some p → PR W (fun b => Xc b ∨ E b) p (args.getD j undef)) :
   YieldAt Fence.wide 0 Γ.P l args W fun e W' => ∃ t, e = .returned (.bool !t) ∧ SideJ Γ fx' w X β D l rec env B U ok K tm (i + 1) t (fun b => Xc b ∨ (W.heap.size ≤ b ∧ b < W'.heap.size)) E W' ∧ Kp Xc W W' := by
 obtain ⟨β', ho, hs, hl'⟩ := hJ
 have hcard := c5 i row hrow
 have hrun := run_yield (P := Γ.P) (args := args) hl' (by rw [hr3]; omega)
 rw [hr1, hr2, hr3, hr4, hr5] at hrun
 refine ⟨fn, _, assign, body, hrun, roundIn_of_wpIn (F := Fence.wide) trivial ?_⟩
 have hlW : l < W.heap.size := by have := hs.sz; omega
 let Γ1 : Ctx := Ctx.inRd Γ.P Γ.N W (fun b => X b ∨ b = D ∨ b = l ∨ E b) β' fx'
 have r1 : Rl (Γ1.atX Γ1.X) ⟨env, B i, U i⟩ tm W β' := { hs.rl with own := fun k bi hb hv => .inr ⟨k, bi, hb, hv, rfl⟩, fixd := fun _ _ => rfl, keep := Kp.refl _ _ }
 have r2 : Rl (Γ1.atX Γ1.X) (paramsSt ps.toList row ⟨env, B i, U i⟩) ((ps.zip args).foldl (fun tmps (t, a) => tmps.setIfInBounds t a) tm) W β' := by
   have := paramsRl (ts := ps.toList) (row := row) (us := args.toList) r1 c4 (by simp; omega) (fun j p hj => by
     have := hpr j p hj
     have e : args.toList.getD j undef = args.getD j undef := by simp [List.getD, Array.getD_eq_getD_getElem?]
     rw [e]
     refine this.mono ⟨Nat.le_refl _, fun b _ hn => ⟨rfl, fun hA => hn ?_⟩⟩
     rcases hA with (hA | hA | hA | hA) | ⟨k, bi, hk, hv, rfl⟩
     · exact .inl (hs.xc b (.inl hA))
     · exact .inl (hs.xc b (.inr (.inl hA)))
     · exact .inl (hs.xc b (.inr (.inr hA)))
     · exact .inr hA
     · exact .inl (hs.live k bi hk hv))
   rw [← Array.foldl_toList, Array.toList_zip]
   exact this
 have hR1 : R Γ1 (paramsSt ps.toList row ⟨env, B i, U i⟩) { tmps := (ps.zip args).foldl (fun tmps (t, a) => tmps.setIfInBounds t a) tm, defers := [] } W :=
   ⟨Γ1.X, β', r2, fun _ h => h, fun _ _ h => h, (fun h => by cases h), (fun h => by cases h), ⟨[], rfl, List.nodup_nil, fun d hd => by cases hd⟩⟩
 refine wpIn_mono (hround Γ1 rfl rfl rfl rfl rfl l i row hrow ho _ W hR1) ?_
 rintro e a1 w1 ⟨s1, hK1 | ⟨_, _, hpk, _⟩, X1, β1, h1, g1⟩
 case inr => cases hpk
 cases e with
 | normal =>
   have hlX1 : X1 l := g1.sub l (.inr (.inr (.inl rfl)))
   have hl1 : w1.heap[l]? = some (.loop (rec .ready none)) := (h1.keep.block l hlW (by rintro ⟨k, bi, hk, hv, e⟩; exact hs.rl.notX k bi hk hv (.inr (.inr (.inl e))))).trans hl'
   have hlt1 : l < w1.heap.size := (Array.getElem?_eq_some_iff.1 hl1).1
   refine ⟨_, run_beginRound hl1 hr6, ?_⟩
   generalize hw2 : w1.putObj l (.loop { rec .ready none with state := .busy }) = w2
   have hl2 : w2.heap[l]? = some (.loop { rec .ready none with state := .busy }) := by rw [← hw2]; exact World.putObj_heap_same hlt1
   have hkp2 : Kp (fun b => b = l) w1 w2 := by rw [← hw2]; exact kp_putObj _ _ rfl
   have r3 := Rl.turn (X' := X1) h1 hkp2 (fun b hb => by rw [hb]; exact hlX1) (fun b _ hb => hb) (fun b hb => Nat.lt_of_lt_of_le (h1.Xlt b hb) hkp2.size)
   let Γ2 : Ctx := Ctx.inRd Γ.P Γ.N w2 X1 β1 fx'
   have hR2 : R Γ2 s1 a1 w2 := ⟨X1, β1, r3, fun _ h => h, fun _ _ h => h, (fun h => by cases h), (fun h => by cases h), by
     obtain ⟨mk, m1, m2, m3⟩ := g1.marks
     refine ⟨mk, m1, m2, fun d hd => ?_⟩
     obtain ⟨D', d1, d2, d3, d4⟩ := m3 d hd
     refine ⟨D', d1, (hkp2.block D' (Array.getElem?_eq_some_iff.1 d2).1 ?_).trans d2, (fun h => by cases h), d4⟩
     rintro rfl
     rw [hl1] at d2; cases d2⟩
   refine wpIn_mono (hK1 Γ2 rfl rfl rfl rfl rfl a1 w2 hR2) ?_
   rintro e a2 w3 ⟨s2, hK2 | ⟨_, _, hpk, _⟩, hR3⟩
   case inr => cases hpk
   have hl3 : w3.heap[l]? = some (.loop { rec .ready none with state := .busy }) := by
     obtain ⟨X3, β3, h3, g3⟩ := hR3
     exact (h3.keep.block l (Array.getElem?_eq_some_iff.1 hl2).1 (by rintro ⟨k, bi, hk, hv, e⟩; exact h1.notX k bi hk hv (e ▸ hlX1))).trans hl2
   have hlt3 : l < w3.heap.size := (Array.getElem?_eq_some_iff.1 hl3).1
   have fin : ∀ (jump : Option Code) (s3 : St), R Γ2 s3 a2 w3 → (∀ k ∈ keysE env, k ∈ s3.used) → ∃ v w', (Instr.endRound l jump).run Γ.P w3 = .ok v w' ∧ v = .bool jump.isNone ∧
       w'.heap[l]? = some (.loop (rec (if jump.isNone then .ready else .done) jump)) ∧ ∃ β4, Side Γ fx' w X β D l ⟨env, s3.blks, s3.used⟩ tm (fun b => Xc b ∨ (W.heap.size ≤ b ∧ b < w'.heap.size)) E w' β4 ∧ Kp Xc W w' := fun jump s3 hR3 hsu => by
     refine ⟨_, _, run_endRound jump hl3, rfl, ?_, ?_⟩
     · rw [World.putObj_heap_same hlt3]; exact hr7 jump
     · exact hs.after rfl hD hl hX k2 h1 (fun b hb => g1.sub b hb) _ hw2.symm hR3 hsu rfl
   cases e with
   | normal =>
     obtain ⟨v, w', q1, q2, q3, β4, q4, q5⟩ := fin none ⟨[], B (i + 1), U (i + 1)⟩ (hK2.1 _ _ hR3.noenv) (fun k hk => k3 _ k (k2 k hk))
     exact ⟨v, w', q1, false, by rw [q2]; rfl, ⟨β4, hK2.2, q4, q3⟩, q5⟩
   | ret =>
     obtain ⟨v, w', q1, q2, q3, β4, q4, q5⟩ := fin (some .ret) s2 hR3 (subB_spec hK2.1)
     exact ⟨v, w', q1, true, by rw [q2]; rfl, ⟨β4, .ret, .ret, s2, .inl ⟨rfl, rfl⟩, hK2.2, q4, q3⟩, q5⟩
   | exit id =>
     obtain ⟨v, w', q1, q2, q3, β4, q4, q5⟩ := fin (some (.exit id)) s2 hR3 (subB_spec hK2.1)
     exact ⟨v, w', q1, true, by rw [q2]; rfl, ⟨β4, .exit id, .exit id, s2, .inr ⟨id, rfl, rfl⟩, hK2.2, q4, q3⟩, q5⟩
   | goto t => exact hK2.elim
   | panic ch => exact hK2.elim
   | outgrown => exact hK2.elim
 | ret => exact hK1.elim
 | exit id => exact hK1.elim
 | goto t => exact hK1.elim
 | panic ch => exact hK1.elim
 | outgrown => exact hK1.elim
end
set_option maxHeartbeats 400000 in
theorem Wp.rangeFunc {Γ : Ctx} {n : Nat} {g : Operand} {ps : Array Tmp} {assign body : Code} {s : St} {K : Exit → St → Prop} {f : FuncId} {caps : List PV} {xs : List (List PV)} (hI : ISpec Γ.P f caps xs)
   (env : List (Nat × AV)) (B : Nat → List (Nat × Option Blk)) (U : Nat → List Nat) (fx' : List Nat) (ok : Nat → Prop) (h0 : Le Γ s ⟨env, B 0, U 0⟩) (hg : St.geto ⟨env, B 0, U 0⟩ g = .pure (.fn f caps)) (hoff : Γ.y.on = false) (ok0 : ok 0)
   (c1 : subB Γ.fx fx' = true) (c2 : subB (keysE env) fx' = true) (c3 : ∀ i, subB fx' (U i) = true) (c4 : allLt Γ.N ps.toList = true) (c5 : ∀ (i : Nat) (row : List PV), xs[i]? = some row → row.length = ps.size)
   (hround : ∀ Γ1 : Ctx, Γ1.P = Γ.P → Γ1.N = Γ.N → Γ1.fx = fx' → Γ1.y.on = false → Γ1.pk = none → ∀ (l i : Nat) (row : List PV), xs[i]? = some row → ok i →
     Wp Γ1 (Fence.wide.inRound l) 0 assign (paramsSt ps.toList row ⟨env, B i, U i⟩) (normalK fun s1 =>
       ∀ Γ2 : Ctx, Γ2.P = Γ.P → Γ2.N = Γ.N → Γ2.fx = fx' → Γ2.y.on = false → Γ2.pk = none → Wp Γ2 (Fence.wide.inRound l) 0 body s1 (roundEnd K env Γ2 (B (i + 1)) (U (i + 1)) (ok (i + 1)))))
   (hdone : ok xs.length → K .normal ⟨env, B xs.length, U xs.length⟩) : Wp Γ Fence.wide n (.rangeFunc g ps assign body) s K := by
 intro a w hR
 have k2 := subB_spec c2
 have k3 := fun i => subB_spec (c3 i)
 obtain ⟨X, β, h, gh⟩ := h0 a w hR
 have hX : ∀ b, X b → b < w.heap.size := h.Xlt
 refine wpIn_rangeFunc fun fn hfn => ?_
 obtain ⟨D, hD⟩ : ∃ D, D = w.heap.size := ⟨_, rfl⟩
 obtain ⟨l, hl⟩ : ∃ l, l = w.heap.size + 1 := ⟨_, rfl⟩
 obtain ⟨rec, hrec⟩ : ∃ rec : LoopState → Option Code → Loop, rec = fun st pe => { state := st, pending := pe, fn, tmps := a.tmps, params := ps, assign, body, defers := w.heap.size } := ⟨_, rfl⟩
 obtain ⟨W1, hW1⟩ : ∃ W1, (w.alloc (.deferred (some []))).alloc (.loop (rec .ready none)) = W1 := ⟨_, rfl⟩
 have hsz1 : W1.heap.size = w.heap.size + 2 := by rw [← hW1]; simp
 have hL1 : W1.heap[l]? = some (.loop (rec .ready none)) := by
   rw [← hW1, hl]; have := World.alloc_heap_new (w.alloc (.deferred (some []))) (.loop (rec .ready none)); rwa [World.size_alloc] at this
 have hold : ∀ b, b < w.heap.size + 1 → W1.heap[b]? = (w.alloc (.deferred (some []))).heap[b]? := fun b hb => by rw [← hW1]; exact heap_alloc_old _ _ (by simpa using hb)
 have hD1 : W1.heap[D]? = some (.deferred (some [])) := by rw [hold D (by omega), hD]; exact World.alloc_heap_new w _
 have hkp1 : Kp (fun _ => False) w W1 := ⟨by rw [← hW1]; rfl, by rw [← hW1]; exact tpr, by rw [← hW1]; rfl, by omega, fun b hb _ => by rw [hold b (by omega), heap_alloc_old _ _ hb]⟩
 have hPR : PR w (Av X β) (.fn f caps) (a.eval g) := by
   have := geto_AR h g
   rw [hg] at this
   cases this with
   | pure _ _ hp => exact hp
 -- where no round has been
 have rlE : Rl (Ctx.plain Γ.P Γ.N w (fun b => X b ∨ b = D ∨ b = l ∨ False) β fx') ⟨env, B 0, U 0⟩ a.tmps W1 β := by
   have h1 : Rl ((Ctx.plain Γ.P Γ.N w X β fx').atX X) ⟨env, B 0, U 0⟩ a.tmps w β := { h with own := fun k bi hb hv => .inr ⟨k, bi, hb, hv, rfl⟩, fixd := fun _ _ => rfl, keep := Kp.refl _ _ }
   refine h1.others hkp1 (fun b hb => hb.elim) (fun b _ hb => hb.elim) (fun b hb hx => ?_) (fun b hx => ?_)
   · rcases hx with hx | hx | hx | hx
     · exact hx
     · omega
     · omega
     · exact hx.elim
   · rcases hx with hx | hx | hx | hx
     · have := hX b hx; omega
     · omega
     · omega
     · exact hx.elim
 let Xit : Nat → Prop := fun b => Av X β b ∨ b = D ∨ b = l
 have side0 : Side Γ fx' w X β D l ⟨env, B 0, U 0⟩ a.tmps Xit (fun _ => False) W1 β :=
   ⟨rlE, fun b hb => by rcases hb with hb | hb | hb; exact .inl (.inl hb); exact .inr (.inl hb); exact .inr (.inr hb), fun k bi hk hv => .inl (.inr ⟨k, bi, hk, hv, rfl⟩), fun b hb => ⟨by
     rcases hb with hb | hb | hb
     · have := h.Avlt b hb; omega
     · omega
     · omega, fun h => h⟩, fun b hb => hb.elim, by omega, hD1⟩
 obtain ⟨y, y1, y2, y3, y4, y5⟩ : ∃ y : Yl Γ.P, y.on = true ∧ y.rd = false ∧ y.xs = xs ∧ y.l = l ∧ y.J = SideJ Γ fx' w X β D l rec env B U ok K a.tmps := ⟨
 { on := true
   rd := false
   l := l
   xs := xs
   J := SideJ Γ fx' w X β D l rec env B U ok K a.tmps
   stable := fun i t Xc E E' W W' hJ hk hE => SideJ.stable hD hl hX hJ hk hE
   round := fun i row Xc E W args _ hrow hJ _ hsz hpr => SideJ.round hD hl hX k2 k3 c4 c5 (by rw [hrec]) (by rw [hrec]) (by rw [hrec]) (by rw [hrec]) (by rw [hrec]) (by rw [hrec]) (fun jump => by rw [hrec]) hround hrow hJ hsz hpr }, rfl, rfl, rfl, rfl, rfl⟩
 have hy0 : y.J 0 false Xit (fun _ => False) W1 := by rw [y5]; exact ⟨β, ok0, side0, hL1⟩
 have hPR1 : PR W1 Xit (.fn f caps) (a.eval g) := by
   refine hPR.mono ⟨by omega, fun b hb hn => ⟨hkp1.block b hb fun h => h, ?_⟩⟩
   rintro (hx | hx | hx)
   · exact hn hx
   · omega
   · omega
 obtain ⟨cv, hev, hcl, hcp⟩ : ∃ cv : Array Value, a.eval g = .func (.func f) #[] cv ∧ cv.size = caps.length ∧ ∀ (j : Nat) (p : PV), caps[j]? = some p → PR W1 Xit p (cv.getD j undef) := by
   generalize a.eval g = v at hPR1
   cases hPR1 with
   | fn _ _ vs hl hp => exact ⟨vs, rfl, hl.1, hp⟩
   | bm _ g p v he => exact absurd hI.2.1 (by rw [he, Nat.not_lt]; exact Nat.le_add_left _ _)
 have hcall := hI.2.2 W1 Xit cv y (h.glob.mono ⟨by omega, fun b hb hn => ⟨hkp1.block b hb fun h => h, by
   rintro (hx | hx | hx)
   · exact hn hx
   · omega
   · omega⟩⟩) y1 y2 y3 hcl hcp (fun b hb => (side0.lt b hb).1) hy0
 rw [y4, y5] at hcall
 refine ⟨l, [{ target := .collected D, args := #[] }], W1, { target := .fn (.func f) cv, args := #[.func (.yield l) #[] #[]] }, W1, f, #[.func (.yield l) #[] #[]] ++ cv, W1, ?_, ?_, fun f' _ => trivial, ?_, (fun hd => by cases hd), callsIn_wide.2 ?_⟩
 · have := run_enterLoop_outer (P := Γ.P) (w := w) fn a.tmps ps assign body
   rw [hl, hD, ← hW1, hrec]
   exact this
 · simp only [resolve, hev, Deferred.ofValue, Sem.run_pure]
   simp [go_sem]
 · simp only [invoke]
   exact hI.1 _ _
 · refine hcall.mono ?_
   rintro e w3 ⟨⟨v, rfl⟩, i, t, Xc, E, hit, β', hJ⟩
   -- what is left to the caller
   have back : ∀ {s3 : St} {w4 : World} (o : Obj), Side Γ fx' w X β D l s3 a.tmps Xc E w3 β' → w4 = w3.putObj l o → R Γ s3 { a with defers := [{ target := .collected D, args := #[] }] ++ a.defers } w4 := fun {s3 w4} o hs hw4 => by
     have kps : Kp (fun b => b = l) w3 w4 := by rw [hw4]; exact kp_putObj o _ rfl
     have z4 : w4.heap.size = w3.heap.size := by rw [hw4, World.putObj_size]
     have hsz3 := hs.sz
     have r1 := Rl.others (Γ := Ctx.plain Γ.P Γ.N w X β fx') (X' := fun b => X b ∨ b = D ∨ b = l) hs.rl kps (fun b hb => .inr (.inr (.inl hb))) (fun b hb he => by have : b < w.heap.size := hb; omega) (fun b _ hx => by
       rcases hx with hx | hx | hx
       · exact .inl hx
       · exact .inr (.inl hx)
       · exact .inr (.inr (.inl hx))) (fun b hx => by
       rcases hx with hx | hx | hx
       · have := hX b hx; omega
       · omega
       · omega)
     have hw0 := h.keep.size
     have hw0' : Γ.w0.heap.size ≤ w.heap.size := hw0
     have k3w : ∀ b, b < w.heap.size → ¬ Ex β b → w4.heap[b]? = w.heap[b]? := fun b hb he => (kps.block b (by omega) (by omega)).trans (hs.rl.keep.block b hb he)
     refine ⟨fun b => X b ∨ b = D ∨ b = l, β', ?_, fun b hb => .inl (gh.sub b hb), fun b hb hx => ?_, (fun hon => by rw [hoff] at hon; cases hon), (fun hon => by rw [hoff] at hon; cases hon), ?_⟩
     · exact
       { r1 with
         own := fun k bi hb hv => by
           rcases r1.own k bi hb hv with h1 | ⟨j, bj, hj, hvj, e⟩
           · exact .inl (Nat.le_trans hw0 h1)
           · have := h.own j bj hj hvj
             rwa [e] at this
         fixd := fun k hk => (r1.fixd k (subB_spec c1 k hk)).trans (h.fixd k hk)
         keep := ⟨r1.keep.os.trans h.keep.os, r1.keep.tape.trans h.keep.tape, r1.keep.output.trans h.keep.output, Nat.le_trans h.keep.size r1.keep.size, fun b hb he => (k3w b (Nat.lt_of_lt_of_le hb hw0) (by
           rintro ⟨k, bi, hk, hv, rfl⟩
           rcases h.own k bi hk hv with h1 | h1
           · have h1' : Γ.w0.heap.size ≤ bi.b := h1
             have hb' : bi.b < Γ.w0.heap.size := hb
             omega
           · exact he h1)).trans (h.keep.block b hb he)⟩ }
     · rcases hx with hx | hx | hx
       · exact gh.old b hb hx
       · omega
       · omega
     obtain ⟨mk, m1, m2, m3⟩ := gh.marks
     refine ⟨{ target := .collected D, args := #[] } :: mk, by rw [m1]; rfl, ?_, fun d hd => ?_⟩
     · refine List.nodup_cons.2 ⟨fun hm => ?_, m2⟩
       obtain ⟨D', d1, d2, _, d4⟩ := m3 _ hm
       have e : D = D' := by injection d1 with d1; injection d1
       have := (Array.getElem?_eq_some_iff.1 d2).1
       omega
     · rcases List.mem_cons.1 hd with rfl | hd
       · exact ⟨D, rfl, (kps.block D (by omega) (by omega)).trans hs.dd, fun _ => by omega, .inr (.inl rfl)⟩
       · obtain ⟨D', d1, d2, d3, d4⟩ := m3 d hd
         have hlt := (Array.getElem?_eq_some_iff.1 d2).1
         exact ⟨D', d1, (k3w D' hlt (by rintro ⟨k, bi, hk, hv, e⟩; exact h.notX k bi hk hv (e ▸ d4))).trans d2, d3, .inl d4⟩
   cases t with
   | false =>
     obtain ⟨ho, hs, hl3⟩ := hJ
     have := hit rfl
     subst this
     have hend := run_endLoop (P := Γ.P) hl3 (by rw [hrec]; simp)
     have hp : (rec .ready none).pending = none := by rw [hrec]
     rw [hp] at hend
     refine ⟨none, _, hend, ?_⟩
     exact ⟨_, .inl (hdone ho), back _ hs rfl⟩
   | true =>
     obtain ⟨c, e, s2, hc, hKe, hs, hl3⟩ := hJ
     have hend := run_endLoop (P := Γ.P) hl3 (by rw [hrec]; simp)
     have hp : (rec .done (some c)).pending = some c := by rw [hrec]
     rw [hp] at hend
     refine ⟨some c, _, hend, ?_⟩
     rcases hc with ⟨rfl, rfl⟩ | ⟨id, rfl, rfl⟩
     · exact wpIn_ret ⟨_, .inl hKe, back _ hs rfl⟩
     · exact wpIn_exit ⟨_, .inl hKe, back _ hs rfl⟩
end Go.Avc
/- More operations: the bytes of a constant string. Conditions: none. -/
namespace Go.Avc
open Go.RowKit
def isMark (P : Program) (src dst : TypeId) : Bool := match Nat.beq src dst with
 | true => match P.underlying src with
   | some (.slice e) => match P.underlying e with
     | some (.int .u8) => true
     | _ => false
   | _ => false
 | false => false
def opMark (x : AV) (blk : Nat → Option Blk) (fx : List Nat) (K : Kont) : Prop :=
 match x with
 | .lsl k i (n + 1) => match blk k with
   | some (.row sz rows) => match freshIn k fx with
     | true => K (.pure (.sl sz ((rows.drop i).take (n + 1)))) [.kill k]
     | false => False
   | _ => False
 | _ => False
def more3 (md : Bool) (P : Program) (fx : List Nat) (s : St) (o : Oper) (K : Kont) : Prop :=
 match o.op with
 | .convert src dst x => match isMark P src dst with
   | true => opMark (s.geto x) s.blk fx K
   | false => more2 md P fx s o K
 | _ => more2 md P fx s o K
theorem isMark_spec {P : Program} {src dst : TypeId} (h : isMark P src dst = true) : src = dst ∧ ∃ e, P.underlying src = some (.slice e) ∧ P.underlying e = some (.int .u8) := by
 unfold isMark at h
 split at h
 · rename_i hb
   split at h
   · rename_i e he
     split at h
     · rename_i h8; exact ⟨Nat.eq_of_beq_eq_true hb, e, he, h8⟩
     · cases h
   · cases h
 · cases h
section
variable {Γ : Ctx} {s : St} {tm : Array Value} {w : World} {β : BM} {P : Program} {K : Kont}
theorem Rl.killW (h : Rl Γ s tm w β) {k : Nat} {bi : BI} (hβ : β k = some bi) (hv : bi.virt = false) (hfx : k ∉ Γ.fx) {w' : World} (hsz : w'.heap.size = w.heap.size)
   (hold : ∀ b, b ≠ bi.b → w'.heap[b]? = w.heap[b]?) (ho : w'.os = w.os) (ht : Tp w' w) (hp : w'.output = w.output) : Rl Γ (s.kill k) tm w' (fun j => if j = k then none else β j) ∧ Ad w (Av Γ.X β) w' (Av Γ.X (fun j => if j = k then none else β j)) ∧ ¬ Av Γ.X (fun j => if j = k then none else β j) bi.b := by
 generalize hβ' : (fun j => if j = k then none else β j) = β'
 have e1 : β' k = none := by rw [← hβ']; simp
 have e2 : ∀ j, j ≠ k → β' j = β j := fun j hj => by rw [← hβ']; simp [hj]
 have e3 : ∀ j bj, β' j = some bj → j ≠ k ∧ β j = some bj := fun j bj hj => by
   by_cases e : j = k
   · subst e; rw [e1] at hj; cases hj
   · exact ⟨e, by rw [← e2 j e]; exact hj⟩
 have had : Ad w (Av Γ.X β) w' (Av Γ.X β') := ⟨by omega, fun b _ hA => ⟨hold b fun e => hA (.inr ⟨k, bi, hβ, hv, e.symm⟩), fun hA' => hA (by
   rcases hA' with hx | ⟨j, bj, hj, hv, hb⟩
   · exact .inl hx
   · exact .inr ⟨j, bj, (e3 j bj hj).2, hv, hb⟩)⟩⟩
 have arm : ∀ {p : AV} {v : Value}, AR w (Av Γ.X β) β p v → AR w' (Av Γ.X β') β' p v := by
   intro p v hp
   induction hp with
   | junk v => exact .junk v
   | gh i t v => exact .gh i t v
   | pure p v hp => exact .pure p v (hp.mono had)
   | loc k' i j bi2 hb =>
     by_cases e : k' = k
     · subst e; exact .locDead _ _ _ _ e1
     · exact .loc k' i j bi2 ((e2 k' e).trans hb)
   | locDead k' i j v hb => 
     by_cases e : k' = k
     · subst e; exact .locDead _ _ _ _ e1
     · exact .locDead k' i j v ((e2 k' e).trans hb)
   | lsl k' i n bi2 cap hb hv hn hc hi hm =>
     by_cases e : k' = k
     · subst e; exact .lslDead _ _ _ _ e1
     · exact .lsl k' i n bi2 cap ((e2 k' e).trans hb) hv hn hc hi hm
   | lslV k' i bi2 a hb hi =>
     by_cases e : k' = k
     · subst e; exact .lslDead _ _ _ _ e1
     · exact .lslV k' i bi2 a ((e2 k' e).trans hb) hi
   | lslDead k' i n v hb =>
     by_cases e : k' = k
     · subst e; exact .lslDead _ _ _ _ e1
     · exact .lslDead k' i n v ((e2 k' e).trans hb)
   | mp k' bi2 hb =>
     by_cases e : k' = k
     · subst e; exact .mpDead _ _ e1
     · exact .mp k' bi2 ((e2 k' e).trans hb)
   | mpDead k' v hb =>
     by_cases e : k' = k
     · subst e; exact .mpDead _ _ e1
     · exact .mpDead k' v ((e2 k' e).trans hb)
   | agg cs vs hl _ ih => exact .agg cs vs hl ih
   | fn f cs vs hl _ ih => exact .fn f cs vs hl ih
   | bm f g p v he _ ih => exact .bm f g p v he ih
   | tup cs vs hl _ ih => exact .tup cs vs hl ih
 have hnA : ¬ Av Γ.X β' bi.b := by
   rintro (hx | ⟨j, bj, hj, hv', hb⟩)
   · exact h.notX k bi hβ hv hx
   · obtain ⟨hne, hj'⟩ := e3 j bj hj
     exact hne (h.inj j k bj bi hj' hβ hv' hv hb)
 refine ⟨?_, had, hnA⟩
 refine
 { size := h.size
   slots := fun t => arm (h.slots t)
   blks := fun j => ?_
   inj := fun j j' bj bj' hj hj' => h.inj j j' bj bj' (e3 j bj hj).2 (e3 j' bj' hj').2
   lt := fun j bj hj hv => by rw [hsz]; exact h.lt j bj (e3 j bj hj).2 hv
   notX := fun j bj hj => h.notX j bj (e3 j bj hj).2
   own := fun j bj hj => h.own j bj (e3 j bj hj).2
   fixd := fun j hj => (e2 j fun e => hfx (e ▸ hj)).trans (h.fixd j hj)
   used1 := h.used1
   used2 := fun j b hj => ?_
   keep := ⟨ho.trans h.keep.os, ht.trans h.keep.tape, hp.trans h.keep.output, by have := h.keep.size; omega, fun b hlt hE => (hold b fun e => by
     subst e
     rcases h.own k bi hβ hv with h1 | h1
     · omega
     · exact hE h1).trans (h.keep.block b hlt hE)⟩
   Xlt := fun b hb => by rw [hsz]; exact h.Xlt b hb
   glob := h.glob.mono had }
 · rw [St.blk_kill]
   by_cases e : k = j
   · subst e; rw [if_pos rfl, e1]; trivial
   · rw [if_neg e, e2 j (Ne.symm e)]
     have hb := h.blks j
     cases hs : s.blk j with
     | none =>
       rw [hs] at hb
       cases hbj : β j with
       | none => trivial
       | some x => rw [hbj] at hb; exact hb.elim
     | some blk' =>
       rw [hs] at hb
       cases hbj : β j with
       | none => rw [hbj] at hb; exact hb.elim
       | some x =>
         rw [hbj] at hb
         cases blk' with
         | box cells =>
           obtain ⟨h1, cs, e', fz, h2, h3, h4, h5, h6⟩ := hb
           exact ⟨h1, cs, e', fz, (hold _ fun e2 => e (h.inj j k x bi hbj hβ h1 hv e2).symm).trans h2, h3, h4, h5, fun j av hj => ⟨arm (h6 j av hj).1, (h6 j av hj).2⟩⟩
         | row sz rows =>
           refine BOK.mono (β := β) (β' := β') (blk := .row sz rows) had hb (fun y hy => ?_) fun hvx => hold _ fun e2 => e (h.inj j k x bi hbj hβ hvx hv e2).symm
           simp only [Blk.keys, List.not_mem_nil] at hy
         | mp es =>
           refine BOK.mono (β := β) (β' := β') (blk := .mp es) had hb (fun y hy => ?_) fun hvx => hold _ fun e2 => e (h.inj j k x bi hbj hβ hvx hv e2).symm
           simp only [Blk.keys, List.not_mem_nil] at hy
 · rw [St.blk_kill] at hj
   by_cases e : k = j
   · subst e; rw [if_pos rfl] at hj; cases hj
   · rw [if_neg e] at hj
     exact h.used2 j b hj
theorem mark_sound (h : Rl Γ s tm w β) {src dst : TypeId} (hm : isMark P src dst = true) {x : AV} {u : Value} (hx : AR w (Av Γ.X β) β x u) (hkx : ∀ k ∈ x.keys, k ∈ s.used) (hK : opMark x s.blk Γ.fx K) :
   Out Γ s tm K ((convert src dst u).run P w) := by
 obtain ⟨rfl, e, hs, he⟩ := isMark_spec hm
 unfold opMark at hK
 split at hK
 case h_2 => exact hK.elim
 rename_i k i n
 split at hK
 case h_2 => exact hK.elim
 rename_i sz rows hblk
 split at hK
 case h_2 => exact hK.elim
 rename_i hfr0
 obtain ⟨bi, hβ, hb⟩ := h.live hblk
 have hx0 := hx
 cases hx with
 | lslDead _ _ _ _ hd => rw [hβ] at hd; cases hd
 | lsl _ _ _ bi' cap hbb hv hn hcc hil hm =>
   rw [hβ] at hbb; cases hbb
   obtain ⟨g1, g2, g2', g3, g4⟩ := hb
   rcases g4 with ⟨g4, _⟩ | ⟨_, cs, e', fz, g5, g6, g7, g8, g9⟩
   · rw [hv] at g4; cases g4
   have hsh : w.shape? bi.b = some (e', cs.size) := by unfold World.shape?; rw [g5]
   have hfr : ∃ w' fz', w.freeze ⟨bi.b, cs.size, none⟩ 1 = w' ∧ w'.heap[bi.b]? = some (.cells cs e' fz') ∧ w'.heap.size = w.heap.size ∧ (∀ b, b ≠ bi.b → w'.heap[b]? = w.heap[b]?) ∧ w'.os = w.os ∧ Tp w' w ∧ w'.output = w.output := by
     have hex : ∃ fz', (w.freeze ⟨bi.b, cs.size, none⟩ 1).heap[bi.b]? = some (.cells cs e' fz') := by
       unfold World.freeze
       rw [if_neg (by decide)]
       simp only [Array.getElem?_modify, g5, if_true, Option.map_some]
       exact ⟨_, rfl⟩
     obtain ⟨fz', hex⟩ := hex
     refine ⟨_, fz', rfl, hex, ?_⟩
     unfold World.freeze
     rw [if_neg (by decide)]
     refine ⟨by simp, fun b hb => ?_, rfl, tpr, rfl⟩
     simp [Array.getElem?_modify, Ne.symm hb]
   obtain ⟨w', fz', f0, f1, f2, f3, f4, f5, f6⟩ := hfr
   obtain ⟨hR, had, hnA⟩ := h.killW hβ hv (freshIn_spec hfr0) f2 f3 f4 f5 f6
   have hpr : PR w' (Av Γ.X (fun j => if j = k then none else β j)) (.sl sz ((rows.drop i).take (n + 1))) (.slice (some ⟨bi.b, i * bi.sz, none⟩) (n + 1) cap) := by
     have hlen : ((rows.drop i).take (n + 1)).length = n + 1 := by simp; omega
     have hlt : bi.b < w'.heap.size := (Array.getElem?_eq_some_iff.1 f1).1
     have hget : ∀ (x : Nat) (row : List PV), ((rows.drop i).take (n + 1))[x]? = some row → rows[i + x]? = some row ∧ x < n + 1 := fun x row hx => by
       have hxn : x < n + 1 := by have := (List.getElem?_eq_some_iff.1 hx).1; omega
       rw [List.getElem?_take, if_pos hxn, List.getElem?_drop] at hx
       exact ⟨hx, hxn⟩
     have hcell : ∀ (x : Nat) (row : List PV) (y : Nat) (p : PV), ((rows.drop i).take (n + 1))[x]? = some row → row[y]? = some p → w'.cell? ((⟨bi.b, i * bi.sz, none⟩ : Addr).add (x * sz + y)) = some (cs.getD ((i + x) * sz + y) undef) := fun x row y p hx hy => by
       obtain ⟨hx', hxn⟩ := hget x row hx
       have hr := g3 _ row hx'
       have hy' : y < sz := by have := (List.getElem?_eq_some_iff.1 hy).1; omega
       have hxl : i + x < rows.length := (List.getElem?_eq_some_iff.1 hx').1
       rw [Addr.add_lit, g1]
       have e1 : i * sz + (x * sz + y) = (i + x) * sz + y := by rw [Nat.add_mul]; omega
       rw [e1]
       refine getD_cell f1 ?_
       have : (i + x) * sz + sz ≤ rows.length * sz := by
         rw [← Nat.succ_mul]; exact Nat.mul_le_mul_right _ hxl
       omega
     have := PR.sl (w := w') (A := Av Γ.X (fun j => if j = k then none else β j)) sz ((rows.drop i).take (n + 1)) ⟨bi.b, i * bi.sz, none⟩ cap (fun x y => cs.getD ((i + x) * sz + y) undef) (by omega) hm g2 (fun _ => ⟨hlt, hnA⟩)
       (fun x row hx => g3 _ row (hget x row hx).1) (fun x row y p hx hy => ⟨hcell x row y p hx hy, (g9 _ row y p (hget x row hx).1 hy).2⟩)
       (fun x row y p hx hy => ((g9 _ row y p (hget x row hx).1 hy).1).mono had)
     rw [hlen] at this
     exact this
   refine ⟨_, _, .slice (some ⟨bi.b, i * bi.sz, none⟩) (n + 1) cap, w', _, hK, ?_, hR, .pure _ _ hpr, by simp [AV.keys]⟩
   simp [convert, run_underlying hs, run_underlying he, markStringish, hsh, f0]
theorem more3_ok0 {md : Bool} : MoreOK0 (more3 md Γ.P Γ.fx) Γ := by
 intro F hF n s a w β o K hK h ho next Q hk
 have old : more2 md Γ.P Γ.fx s o K → o.wpIn F n Γ.P a w next Q := fun hK => more2_ok0 F hF n s a w β o K hK h ho next Q hk
 have hd : a.defers = a.defers := rfl
 have fin : ∀ (S : Sem Value), (execOp a.eval o) = (do pure (.value (← S))) → (∀ c, o.op ≠ .defer c) → Out Γ s a.tmps K (S.run Γ.P w) → o.wpIn F n Γ.P a w next Q := by
   rintro S he hnd ⟨v, acts, u, w', β', hKv, hr, hR, hv, hkv⟩
   refine wpIn_of_run hF hnd (v := u) (w' := w') ?_ (hk v acts _ w' hKv (putD_R hd hR ho hv hkv))
   rw [he, Sem.run_bind, hr, Result.andThen_ok]
   rfl
 unfold more3 at hK
 split at hK
 · rename_i src dst x hx
   split at hK
   · rename_i hm
     exact fin _ (by simp only [execOp, hx]) (by rw [hx]; intro c; simp) (mark_sound h hm (geto_AR h x) (geto_keys h x) hK)
   · exact old hK
 · exact old hK
end
theorem more3_ok {Γ : Ctx} {md : Bool} : MoreOK (more3 md Γ.P Γ.fx) Γ := fun X w β => more3_ok0 (Γ := Γ.here X w β)
theorem more3_det {P : Program} {md : Bool} {fx : List Nat} : DetM (more3 md P fx) := by
 intro s s' o ha K h
 have old : more2 md P fx s o K → ∃ v acts, K v acts ∧ more2 md P fx s' o (fun v' a' => v' = v ∧ a' = acts) := fun h => more2_det s s' o ha K h
 have hg := ha.get
 have hb := ha.blk
 unfold more3 at h ⊢
 split at h
 · rename_i src dst x hx
   split at h
   · rw [hx] at hg hb
     simp only [Op.operands, List.mem_toArray, List.mem_cons, List.not_mem_nil, or_false, forall_eq] at hg hb
     rw [hg]
     unfold opMark at h ⊢
     split at h
     case h_2 => exact h.elim
     rename_i k i n hk
     rw [hk] at hb
     simp only [hb k (by simp [AV.keys])]
     split at h
     case h_2 => exact h.elim
     split at h
     · exact ⟨_, _, h, rfl, rfl⟩
     · exact h.elim
   · exact old h
 · exact old h
end Go.Avc
