/- Sources: what they are made of. Conditions: none. -/
import Derived.Test.YtihbkbioafdhjaaWe
import Derived.Test.YtihbkbioafdhjaaWd
import Derived.Test.YtihbkbioafdhjaaRows
set_option linter.unusedSimpArgs false
set_option linter.unusedVariables false
set_option maxRecDepth 20000
set_option maxHeartbeats 4000000
namespace Go.Proofs.Ytihbkbioafdhjaa
open Go.Avc
abbrev Bs := ByteArray
abbrev PV.str (s : Bs) : PV := .val (.string s)
def encSs (l : List Bs) : PV := .sl 1 (l.map fun s => [PV.str s])
def encIs (l : List Int) : PV := .sl 1 (l.map fun x => [PV.int x])
structure Un where
 (name of_ : Bs) (factor base scale : Int)
def encUn (u : Un) : List PV := [PV.str u.name, PV.str u.of_, .int u.factor, .int u.base, .int u.scale]
structure Ty where
 (kind lo hi : Int) (of_ : Bs) (unit : Int) (names : List Bs)
def encTy (t : Ty) : List PV := [.int t.kind, .int t.lo, .int t.hi, PV.str t.of_, .int t.unit, encSs t.names]
structure Fd where
 (name : Bs) (ty : Ty) (w0 w1 w2 w3 : Int)
def encFd (f : Fd) : List PV := [PV.str f.name, .int f.ty.kind, .int f.ty.lo, .int f.ty.hi, PV.str f.ty.of_, .int f.ty.unit, encSs f.ty.names, .int f.w0, .int f.w1, .int f.w2, .int f.w3]
structure Dp where
 (names : List Bs) (name : Bs) (from_ : List Int) (to : Int)
def encDp (d : Dp) : List PV := [encSs d.names, PV.str d.name, encIs d.from_, .int d.to]
structure Sc where
 (name by_ : Bs) (issuer version : Int) (fields : List Fd) (depends : List Dp)
def encSc (s : Sc) : List PV := [PV.str s.name, PV.str s.by_, .int s.issuer, .int s.version, .sl 11 (s.fields.map encFd), .sl 4 (s.depends.map encDp)]
structure Tm where
 (name path : Bs) (var field n : Int)
def encTm (t : Tm) : List PV := [PV.str t.name, PV.str t.path, .int t.var, .int t.field, .int t.n]
structure At where
 (op : Int) (a b : Tm)
def encAt (x : At) : List PV := [.int x.op, PV.str x.a.name, PV.str x.a.path, .int x.a.var, .int x.a.field, .int x.a.n, PV.str x.b.name, PV.str x.b.path, .int x.b.var, .int x.b.field, .int x.b.n]
structure Fr where
 (name kind : Bs) (schema : Int) (of_ : Tm)
def encFr (x : Fr) : List PV := [PV.str x.name, PV.str x.kind, .int x.schema, PV.str x.of_.name, PV.str x.of_.path, .int x.of_.var, .int x.of_.field, .int x.of_.n]
structure Se where
 (path : Bs) (field : Int) (term : Tm)
def encSe (x : Se) : List PV := [PV.str x.path, .int x.field, PV.str x.term.name, PV.str x.term.path, .int x.term.var, .int x.term.field, .int x.term.n]
structure Ru where
 (head : Bs) (schema : Int) (froms : List Fr) (where_ : List At) (sets : List Se)
def encRu (r : Ru) : List PV := [PV.str r.head, .int r.schema, .sl 8 (r.froms.map encFr), .sl 11 (r.where_.map encAt), .sl 7 (r.sets.map encSe)]
structure Mv where
 (to from_ : Bs) (b a shift : Int)
def encMv (m : Mv) : List PV := [PV.str m.to, PV.str m.from_, .int m.b, .int m.a, .int m.shift]
structure Cv where
 (from_ to : Bs) (a b : Int) (moves : List Mv)
def encCv (c : Cv) : List PV := [PV.str c.from_, PV.str c.to, .int c.a, .int c.b, .sl 5 (c.moves.map encMv)]
structure Rf where
 (name path : Bs) (schema field : Int)
def encRf (r : Rf) : List PV := [PV.str r.name, PV.str r.path, .int r.schema, .int r.field]
structure Pp where
 (name : Bs) (may : List Rf) (most : Int)
def encPp (p : Pp) : List PV := [PV.str p.name, .sl 4 (p.may.map encRf), .int p.most]
structure Src where
 (issuers : List Bs) (units : List Un) (schemas : List Sc) (rules : List Ru) (converts : List Cv) (purposes : List Pp)
def encSrc (s : Src) : List PV := [encSs s.issuers, .sl 5 (s.units.map encUn), .sl 6 (s.schemas.map encSc), .sl 5 (s.rules.map encRu), .sl 5 (s.converts.map encCv), .sl 3 (s.purposes.map encPp)]
def tyOK (nu : Nat) (t : Ty) : Prop :=
 (t.kind = 1 ∧ 0 ≤ t.lo ∧ t.lo ≤ t.hi ∧ t.hi ≤ 1048576 ∧ -1 ≤ t.unit ∧ t.unit < nu ∧ t.names.length = 0) ∨
 (t.kind = 2 ∧ t.lo = 0 ∧ t.hi = 1023 ∧ t.unit = -1 ∧ t.names.length = 0) ∨
 (t.kind = 3 ∧ t.lo = 0 ∧ t.hi = 4095 ∧ t.unit = -1 ∧ t.names.length = 0) ∨
 (t.kind = 4 ∧ t.lo = 0 ∧ t.hi = t.names.length - 1 ∧ t.unit = -1 ∧ 1 ≤ t.names.length ∧ t.names.length ≤ 16 ∧ t.names.Nodup)
instance (nu : Nat) (t : Ty) : Decidable (tyOK nu t) := by unfold tyOK; infer_instance
theorem isAg0 {cs : List AV} : ∃ c, AV.agg cs = .agg c ∨ ∃ d, AV.agg cs = .pure (.agg d) ∧ c = pures d := ⟨_, .inl rfl⟩
theorem isAp0 {ps : List PV} : ∃ c, AV.pure (.agg ps) = .agg c ∨ ∃ d, AV.pure (.agg ps) = .pure (.agg d) ∧ c = pures d := ⟨_, .inr ⟨_, rfl, rfl⟩⟩
def zeroTy : Ty := ⟨0, 0, 0, ⟨#[]⟩, 0, []⟩
structure Sc.sz (c : Sc) : Prop where
 f : c.fields.length ≤ 140737488355328
 d : c.depends.length ≤ 140737488355328
 n : ∀ x ∈ c.fields, x.ty.names.length ≤ 140737488355328
 p : ∀ x ∈ c.depends, x.names.length ≤ 140737488355328 ∧ x.from_.length ≤ 140737488355328
structure Ru.sz (c : Ru) : Prop where
 f : c.froms.length ≤ 140737488355328
 w : c.where_.length ≤ 140737488355328
 s : c.sets.length ≤ 140737488355328
structure Src.sz (s : Src) : Prop where
 li : s.issuers.length ≤ 140737488355328
 lu : s.units.length ≤ 140737488355328
 ls : s.schemas.length ≤ 140737488355328
 lr : s.rules.length ≤ 140737488355328
 lc : s.converts.length ≤ 140737488355328
 lp : s.purposes.length ≤ 140737488355328
 ss : ∀ c ∈ s.schemas, c.sz
 rr : ∀ r ∈ s.rules, r.sz
 cc : ∀ c ∈ s.converts, c.moves.length ≤ 140737488355328
 pp : ∀ c ∈ s.purposes, c.may.length ≤ 140737488355328
def tyAt (s : Src) (a b : Int) : Option Ty := if 0 ≤ a ∧ 0 ≤ b then (match s.schemas[a.toNat]? with
 | some c => (c.fields[b.toNat]?).map Fd.ty
 | none => none) else none
theorem tyAt_some {s : Src} {a b : Nat} (ha : a < s.schemas.length) (hb : b < s.schemas[a].fields.length) : tyAt s a b = some s.schemas[a].fields[b].ty := by
 unfold tyAt
 rw [if_pos ⟨by omega, by omega⟩, Int.toNat_natCast, Int.toNat_natCast, List.getElem?_eq_getElem ha]
 simp only
 rw [List.getElem?_eq_getElem hb]
 rfl
theorem tyAt_none {s : Src} {a b : Int} (h : ∀ (k m : Nat) (hk : k < s.schemas.length), a = k → b = m → s.schemas[k].fields.length ≤ m) : tyAt s a b = none := by
 unfold tyAt
 split
 · rename_i h0
   split
   · rename_i c hc
     obtain ⟨hk, rfl⟩ := List.getElem?_eq_some_iff.1 hc
     rw [List.getElem?_eq_none (h a.toNat b.toNat hk (by omega) (by omega))]
     rfl
   · rfl
 · rfl
theorem tyAt_cases (s : Src) (a b : Int) : (∃ (k m : Nat) (hk : k < s.schemas.length) (hm : m < s.schemas[k].fields.length), a = k ∧ b = m ∧ tyAt s a b = some s.schemas[k].fields[m].ty) ∨
   ((a < 0 ∨ (s.schemas.length : Int) ≤ a ∨ b < 0 ∨ ∃ (k : Nat) (hk : k < s.schemas.length), a = k ∧ (s.schemas[k].fields.length : Int) ≤ b) ∧ tyAt s a b = none) := by
 by_cases ha : a < 0
 · exact .inr ⟨.inl ha, tyAt_none fun k m hk h1 h2 => by omega⟩
 by_cases ha2 : (s.schemas.length : Int) ≤ a
 · exact .inr ⟨.inr (.inl ha2), tyAt_none fun k m hk h1 h2 => by omega⟩
 by_cases hb : b < 0
 · exact .inr ⟨.inr (.inr (.inl hb)), tyAt_none fun k m hk h1 h2 => by omega⟩
 obtain ⟨k, rfl⟩ : ∃ k : Nat, a = k := ⟨a.toNat, by omega⟩
 obtain ⟨m, rfl⟩ : ∃ m : Nat, b = m := ⟨b.toNat, by omega⟩
 have hk : k < s.schemas.length := by omega
 by_cases hm : m < s.schemas[k].fields.length
 · exact .inl ⟨k, m, hk, hm, rfl, rfl, tyAt_some hk hm⟩
 · refine .inr ⟨.inr (.inr (.inr ⟨k, hk, rfl, by omega⟩)), tyAt_none fun k' m' hk' h1 h2 => ?_⟩
   obtain rfl : k = k' := by omega
   omega
def valOK (s : Src) (a b v : Int) : Bool := match tyAt s a b with
 | some t => decide (tyOK s.units.length t) && decide (t.lo ≤ v ∧ v ≤ t.hi)
 | none => false
end Go.Proofs.Ytihbkbioafdhjaa
/- Types: they are valid. Conditions: none. -/
namespace Go.Proofs.Ytihbkbioafdhjaa
open Go.Avc
theorem nodup_snoc {α : Type} {l : List α} {a : α} : (l ++ [a]).Nodup ↔ l.Nodup ∧ a ∉ l := by
 rw [List.nodup_append]
 constructor
 · rintro ⟨h1, _, h2⟩; exact ⟨h1, fun h => h2 a h a (by simp) rfl⟩
 · rintro ⟨h1, h2⟩
   refine ⟨h1, by simp, fun x hx y hy e => ?_⟩
   rw [List.mem_singleton] at hy
   subst hy; subst e
   exact h2 hx
def memB (l : List Bs) (a : Bs) : Bool := l.any fun b => decide (b = a)
theorem memB_iff {l : List Bs} {a : Bs} : memB l a = true ↔ a ∈ l := by simp [memB]
def trues (l : List Bs) : List (Bs × PV) := l.map fun s => (s, .bool true)
theorem trues_get (l : List Bs) (a : Bs) : (mget (trues l) a).getD (.bool false) = .bool (memB l a) := by
 induction l with
 | nil => simp [trues, mget, memB]
 | cons b l ih =>
   unfold trues mget at ih ⊢
   by_cases h : b = a
   · simp [h, memB]
   · simp only [List.map_cons, List.find?_cons, h, decide_false]
     rw [ih]
     simp [h, memB]
theorem trues_put {l : List Bs} {a : Bs} (h : a ∉ l) : mput (trues l) a (.bool true) = trues (l ++ [a]) := by
 rw [(mget_none (by simpa [trues] using h) _).2]
 simp [trues]
attribute [local irreducible] PSub Wp PSpec Le Need Both
theorem different_spec (l : List Bs) (hl : l.length ≤ 100000) : PSpec Try.prog 64 [encSs l] (.bool (decide l.Nodup)) := by
 refine PSpec.of_vc (fun Γ => more8 false Γ.P Γ.fx) (fun Γ => more8_ok) Try.func64 rfl Try.call64 (by simp) ?_
 rintro ⟨P, N, w0, X, β0, fx, y, hy, pk, df⟩ rfl rfl rfl hoff rfl; change y.on = false at hoff
 skip
 refine Wp.loop (fun i : Nat => ⟨[(3, .mp 8), (9, .pure (encSs l)), (10, .int l.length), (11, .int i)], [(8, some (.mp (strK.enc (trues (l.take i)))))], [8]⟩) (fun i => i ≤ l.length ∧ (l.take i).Nodup) (fun i => l.length - i) 0 (Le.of ?_ ?_ rfl rfl rfl) ⟨by omega, by simp⟩ ?_
 · (repeat' (first|exact trivial|refine aq ?_ ?_|exact oq|exact l1 bd|fail))
 · (repeat' (first|exact trivial|exact rfl|refine aq ?_ ?_|fail))
 intro i ⟨hi, hn⟩
 by_cases hi2 : i < l.length
 · have ht : l.take (i + 1) = l.take i ++ [l[i]] := List.take_succ_eq_append_getElem hi2
   have hg := trues_get (l.take i) l[i]
   obtain ⟨m, hm⟩ : ∃ m, m = memB (l.take i) l[i] := ⟨_, rfl⟩
   rw [← hm] at hg
   refine code_sound (more := more8 false _ _) more8_ok FOK.wide _ ?_
   repeat' ((try conv => whnf); first|(first|refine k3 ?_ ?_|refine k4 ?_ ?_) <;> intro hb <;> (try rw [lM] at hb) <;> try (exfalso; omega)|refine s5 nm nm ?_|fail)
   refine ⟨_, inferInstance, strK, l[i], trues (l.take i), rfl, rfl, rfl, _, hg, ?_⟩
   repeat' ((try conv => whnf); first|refine k6 (fun hb => ?_) fun hb => ?_|fail)
   · have hin : l[i] ∈ l.take i := by rw [← memB_iff, ← hm]; assumption
     have hnn : ¬ l.Nodup := fun h => by
       have h2 : (l.take (i + 1)).Nodup := h.sublist (List.take_sublist _ _)
       rw [ht] at h2
       exact (nodup_snoc.1 h2).2 hin
     rw [decide_eq_false hnn]
     exact PSub.refl _
   · have hno : l[i] ∉ l.take i := fun h => by rw [← memB_iff, ← hm] at h; rw [show m = false by assumption] at h; cases h
     refine ⟨_, inferInstance, strK, l[i], trues (l.take i), trues (l.take i ++ [l[i]]), rfl, rfl, rfl, trues_put hno, ?_⟩
     repeat' ((try conv => whnf); first|refine s4 nm ?_|fail)
     refine ⟨i + 1, Le.of (by (repeat' (first|exact trivial|refine aq ?_ ?_|exact oq|fail))) ?_ rfl rfl rfl, ⟨by omega, by rw [ht]; exact nodup_snoc.2 ⟨hn, hno⟩⟩, by omega⟩
     rw [ht]
     (repeat' (first|exact trivial|exact rfl|refine aq ?_ ?_|fail))
 · have e : i = l.length := by omega
   subst e
   rw [List.take_of_length_le (Nat.le_refl _)] at hn
   rw [decide_eq_true hn]
   refine code_sound (more := more8 false _ _) more8_ok FOK.wide _ ?_
   repeat' ((try conv => whnf); first|(first|refine k3 ?_ ?_|refine k4 ?_ ?_) <;> intro hb <;> (try rw [lM] at hb) <;> try (exfalso; omega)|fail)
   exact PSub.refl _
theorem ty1_spec (t : Ty) (nu : Nat) (hk : t.kind = 1) : PSpec Try.prog 60 [.agg (encTy t), .int nu] (.bool (decide (tyOK nu t))) := by
 have e : tyOK nu t ↔ (0 ≤ t.lo ∧ t.lo ≤ t.hi ∧ t.hi ≤ 1048576 ∧ -1 ≤ t.unit ∧ t.unit < nu ∧ t.names.length = 0) := by unfold tyOK; omega
 have hnl : (t.names.map fun s => [PV.str s]).length = t.names.length := List.length_map ..
 refine PSpec.of_vc (fun Γ => more8 false Γ.P Γ.fx) (fun Γ => more8_ok) Try.func60 rfl Try.call60 (by simp) ?_
 rintro ⟨P, N, w0, X, β0, fx, y, hy, pk, df⟩ rfl rfl rfl hoff rfl; change y.on = false at hoff
 repeat' ((try conv => whnf); first|(first|refine k3 ?_ ?_|refine k4 ?_ ?_) <;> intro hb <;> (try rw [lM] at hb) <;> try (exfalso; omega)|fail)
 all_goals refine PSub.of_eq (congrArg (fun b => PV.val (.bool b)) ?_)
 all_goals first | exact (decide_eq_false (by rw [e]; omega)).symm | exact decide_eq_decide.2 (by rw [e]; omega)
theorem ty2_spec (t : Ty) (nu : Nat) (hk : t.kind = 2) : PSpec Try.prog 61 [.agg (encTy t), .int nu] (.bool (decide (tyOK nu t))) := by
 have e : tyOK nu t ↔ (t.lo = 0 ∧ t.hi = 1023 ∧ t.unit = -1 ∧ t.names.length = 0) := by unfold tyOK; omega
 have hnl : (t.names.map fun s => [PV.str s]).length = t.names.length := List.length_map ..
 refine PSpec.of_vc (fun Γ => more8 false Γ.P Γ.fx) (fun Γ => more8_ok) Try.func61 rfl Try.call61 (by simp) ?_
 rintro ⟨P, N, w0, X, β0, fx, y, hy, pk, df⟩ rfl rfl rfl hoff rfl; change y.on = false at hoff
 repeat' ((try conv => whnf); first|(first|refine k3 ?_ ?_|refine k4 ?_ ?_) <;> intro hb <;> (try rw [lM] at hb) <;> try (exfalso; omega)|fail)
 all_goals refine PSub.of_eq (congrArg (fun b => PV.val (.bool b)) ?_)
 all_goals first | exact (decide_eq_false (by rw [e]; omega)).symm | exact decide_eq_decide.2 (by rw [e]; omega)
theorem ty3_spec (t : Ty) (nu : Nat) (hk : t.kind = 3) : PSpec Try.prog 62 [.agg (encTy t), .int nu] (.bool (decide (tyOK nu t))) := by
 have e : tyOK nu t ↔ (t.lo = 0 ∧ t.hi = 4095 ∧ t.unit = -1 ∧ t.names.length = 0) := by unfold tyOK; omega
 have hnl : (t.names.map fun s => [PV.str s]).length = t.names.length := List.length_map ..
 refine PSpec.of_vc (fun Γ => more8 false Γ.P Γ.fx) (fun Γ => more8_ok) Try.func62 rfl Try.call62 (by simp) ?_
 rintro ⟨P, N, w0, X, β0, fx, y, hy, pk, df⟩ rfl rfl rfl hoff rfl; change y.on = false at hoff
 repeat' ((try conv => whnf); first|(first|refine k3 ?_ ?_|refine k4 ?_ ?_) <;> intro hb <;> (try rw [lM] at hb) <;> try (exfalso; omega)|fail)
 all_goals refine PSub.of_eq (congrArg (fun b => PV.val (.bool b)) ?_)
 all_goals first | exact (decide_eq_false (by rw [e]; omega)).symm | exact decide_eq_decide.2 (by rw [e]; omega)
theorem ty4_eq {t : Ty} {nu : Nat} (hk : t.kind = 4) : decide (tyOK nu t) = (decide (t.lo = 0 ∧ t.hi = t.names.length - 1 ∧ t.unit = -1 ∧ 1 ≤ t.names.length ∧ t.names.length ≤ 16) && decide t.names.Nodup) := by
 by_cases h : t.names.Nodup
 · rw [decide_eq_true h, Bool.and_true]
   refine decide_eq_decide.2 ?_
   unfold tyOK
   simp only [h, and_true]
   omega
 · rw [decide_eq_false h, Bool.and_false]
   refine decide_eq_false ?_
   unfold tyOK
   rintro (h1 | h1 | h1 | h1)
   · have := h1.1; omega
   · have := h1.1; omega
   · have := h1.1; omega
   · exact h h1.2.2.2.2.2.2
theorem ty4_spec (t : Ty) (nu : Nat) (hk : t.kind = 4) (hl : t.names.length ≤ 9223372036854775807) : PSpec Try.prog 63 [.agg (encTy t), .int nu] (.bool (decide (tyOK nu t))) := by
 have hnl : (t.names.map fun s => [PV.str s]).length = t.names.length := List.length_map ..
 have q := different_spec t.names
 rw [ty4_eq hk]
 obtain ⟨b, hb0⟩ : ∃ b, b = decide t.names.Nodup := ⟨_, rfl⟩
 rw [← hb0] at q ⊢
 refine PSpec.of_vc (fun Γ => more8 false Γ.P Γ.fx) (fun Γ => more8_ok) Try.func63 rfl Try.call63 (by simp) ?_
 rintro ⟨P, N, w0, X, β0, fx, y, hy, pk, df⟩ rfl rfl rfl hoff rfl; change y.on = false at hoff
 repeat' ((try conv => whnf); first|(first|refine k3 ?_ ?_|refine k4 ?_ ?_) <;> intro hb <;> (try rw [lM] at hb) <;> try (exfalso; omega)|refine s4 nm ?_|fail)
 all_goals first
   | (refine PSub.of_eq (congrArg (fun b => PV.val (.bool b)) ?_); rw [decide_eq_false (by omega)]; rfl)
   | skip
 refine .inl ⟨_, q (by omega), ?_⟩
 skip
 refine PSub.of_eq (congrArg (fun b => PV.val (.bool b)) ?_)
 rw [decide_eq_true (by omega)]; rfl
theorem kinds_spec : PSpec Try.prog 51 [] (.agg [.val .nilFunc, .fn 60 [], .fn 61 [], .fn 62 [], .fn 63 []]) := by
 refine PSpec.of_vc (fun Γ => more8 false Γ.P Γ.fx) (fun Γ => more8_ok) Try.func51 rfl Try.call51 (by simp) ?_
 rintro ⟨P, N, w0, X, β0, fx, y, hy, pk, df⟩ rfl rfl rfl hoff rfl; change y.on = false at hoff
 repeat' ((try conv => whnf); first|refine aq rfl ?_|fail)
 exact PSub.refl _
theorem typeOK_spec (s : Src) (t : Ty) (hl : t.names.length ≤ 9223372036854775807) : PSpec Try.prog 36 [.agg (encSrc s), .agg (encTy t)] (.bool (decide (tyOK s.units.length t))) := by
 have hul : (s.units.map encUn).length = s.units.length := List.length_map ..
 rw [← hul]
 by_cases hk : 1 ≤ t.kind ∧ t.kind ≤ 4
 · have hc : t.kind = 1 ∨ t.kind = 2 ∨ t.kind = 3 ∨ t.kind = 4 := by omega
   rcases hc with hc | hc | hc | hc
   · have q := ty1_spec t (s.units.map encUn).length hc
     obtain ⟨b, hb0⟩ : ∃ b, b = decide (tyOK (s.units.map encUn).length t) := ⟨_, rfl⟩
     rw [← hb0] at q ⊢
     clear hb0
     obtain ⟨kind, lo, hi, of_, unit, names⟩ := t
     obtain rfl : kind = 1 := hc
     refine PSpec.of_vc (fun Γ => more8 false Γ.P Γ.fx) (fun Γ => more8_ok) Try.func36 rfl Try.call36 (by simp) ?_
     rintro ⟨P, N, w0, X, β0, fx, y, hy, pk, df⟩ rfl rfl rfl hoff rfl; change y.on = false at hoff
     skip
     refine Wp.drawG (more := more8 true _ _) more8_det more8_ok FOK.wide rfl (by decide +kernel) (by conv => lhs; reduce) ?_
     skip
     refine .inl ⟨_, kinds_spec, ?_⟩
     repeat' ((try conv => whnf); first|refine aq rfl ?_|refine aq bd ?_|fail)
     refine ⟨_, rfl, by first | exact isAg0 | exact isAp0, ?_⟩
     skip
     refine .inl ⟨_, q, ?_⟩
     skip
     exact PSub.refl _
   · have q := ty2_spec t (s.units.map encUn).length hc
     obtain ⟨b, hb0⟩ : ∃ b, b = decide (tyOK (s.units.map encUn).length t) := ⟨_, rfl⟩
     rw [← hb0] at q ⊢
     clear hb0
     obtain ⟨kind, lo, hi, of_, unit, names⟩ := t
     obtain rfl : kind = 2 := hc
     refine PSpec.of_vc (fun Γ => more8 false Γ.P Γ.fx) (fun Γ => more8_ok) Try.func36 rfl Try.call36 (by simp) ?_
     rintro ⟨P, N, w0, X, β0, fx, y, hy, pk, df⟩ rfl rfl rfl hoff rfl; change y.on = false at hoff
     skip
     refine Wp.drawG (more := more8 true _ _) more8_det more8_ok FOK.wide rfl (by decide +kernel) (by conv => lhs; reduce) ?_
     skip
     refine .inl ⟨_, kinds_spec, ?_⟩
     repeat' ((try conv => whnf); first|refine aq rfl ?_|refine aq bd ?_|fail)
     refine ⟨_, rfl, by first | exact isAg0 | exact isAp0, ?_⟩
     skip
     refine .inl ⟨_, q, ?_⟩
     skip
     exact PSub.refl _
   · have q := ty3_spec t (s.units.map encUn).length hc
     obtain ⟨b, hb0⟩ : ∃ b, b = decide (tyOK (s.units.map encUn).length t) := ⟨_, rfl⟩
     rw [← hb0] at q ⊢
     clear hb0
     obtain ⟨kind, lo, hi, of_, unit, names⟩ := t
     obtain rfl : kind = 3 := hc
     refine PSpec.of_vc (fun Γ => more8 false Γ.P Γ.fx) (fun Γ => more8_ok) Try.func36 rfl Try.call36 (by simp) ?_
     rintro ⟨P, N, w0, X, β0, fx, y, hy, pk, df⟩ rfl rfl rfl hoff rfl; change y.on = false at hoff
     skip
     refine Wp.drawG (more := more8 true _ _) more8_det more8_ok FOK.wide rfl (by decide +kernel) (by conv => lhs; reduce) ?_
     skip
     refine .inl ⟨_, kinds_spec, ?_⟩
     repeat' ((try conv => whnf); first|refine aq rfl ?_|refine aq bd ?_|fail)
     refine ⟨_, rfl, by first | exact isAg0 | exact isAp0, ?_⟩
     skip
     refine .inl ⟨_, q, ?_⟩
     skip
     exact PSub.refl _
   · have q := ty4_spec t (s.units.map encUn).length hc hl
     obtain ⟨b, hb0⟩ : ∃ b, b = decide (tyOK (s.units.map encUn).length t) := ⟨_, rfl⟩
     rw [← hb0] at q ⊢
     clear hb0
     obtain ⟨kind, lo, hi, of_, unit, names⟩ := t
     obtain rfl : kind = 4 := hc
     refine PSpec.of_vc (fun Γ => more8 false Γ.P Γ.fx) (fun Γ => more8_ok) Try.func36 rfl Try.call36 (by simp) ?_
     rintro ⟨P, N, w0, X, β0, fx, y, hy, pk, df⟩ rfl rfl rfl hoff rfl; change y.on = false at hoff
     skip
     refine Wp.drawG (more := more8 true _ _) more8_det more8_ok FOK.wide rfl (by decide +kernel) (by conv => lhs; reduce) ?_
     skip
     refine .inl ⟨_, kinds_spec, ?_⟩
     repeat' ((try conv => whnf); first|refine aq rfl ?_|refine aq bd ?_|fail)
     refine ⟨_, rfl, by first | exact isAg0 | exact isAp0, ?_⟩
     skip
     refine .inl ⟨_, q, ?_⟩
     skip
     exact PSub.refl _
 · rw [decide_eq_false (by unfold tyOK; omega)]
   refine PSpec.of_vc (fun Γ => more8 false Γ.P Γ.fx) (fun Γ => more8_ok) Try.func36 rfl Try.call36 (by simp) ?_
   rintro ⟨P, N, w0, X, β0, fx, y, hy, pk, df⟩ rfl rfl rfl hoff rfl; change y.on = false at hoff
   repeat' ((try conv => whnf); first|(first|refine k3 ?_ ?_|refine k4 ?_ ?_) <;> intro hb <;> (try rw [lM] at hb) <;> try (exfalso; omega)|fail)
   all_goals exact PSub.refl _
end Go.Proofs.Ytihbkbioafdhjaa
/- Types: values of fields; schemas that are recorded. Conditions: none. -/
namespace Go.Proofs.Ytihbkbioafdhjaa
open Go.Avc
def encTB (x : Option Ty) : PV := match x with
 | some t => .tup [.agg (encTy t), .bool true]
 | none => .tup [.agg (encTy zeroTy), .bool false]
theorem zeroTy_sub : PSub (.agg [.val (.int .i64 0), .val (.int .i64 0), .val (.int .i64 0), .val (.string ⟨#[]⟩), .val (.int .i64 0), .val (.slice none 0 0)]) (.agg (encTy zeroTy)) :=
 PSub.agg ⟨PSub.refl _, PSub.refl _, PSub.refl _, PSub.refl _, PSub.refl _, PSub.nil 1, trivial⟩
theorem sub_bool {a b : Bool} (h : a = b) : PSub (.val (.bool a)) (.bool b) := by rw [h]; exact PSub.refl _
attribute [local irreducible] PSub Wp PSpec Le Need Both
theorem typeOf_spec (s : Src) (a b : Int) : PSpec Try.prog 35 [.agg (encSrc s), .int a, .int b] (encTB (tyAt s a b)) := by
 have hsl : (s.schemas.map encSc).length = s.schemas.length := List.length_map ..
 rcases tyAt_cases s a b with ⟨k, m, hk, hm, rfl, rfl, he⟩ | ⟨hno, he⟩
 · have hfl : (s.schemas[k].fields.map encFd).length = s.schemas[k].fields.length := List.length_map ..
   rw [he]
   refine PSpec.of_vc (fun Γ => more8 false Γ.P Γ.fx) (fun Γ => more8_ok) Try.func35 rfl Try.call35 (by simp) ?_
   rintro ⟨P, N, w0, X, β0, fx, y, hy, pk, df⟩ rfl rfl rfl hoff rfl; change y.on = false at hoff
   repeat' ((try conv => whnf); first|(first|refine k3 ?_ ?_|refine k4 ?_ ?_) <;> intro hb <;> (try rw [lM] at hb) <;> try (exfalso; omega)|refine aq rfl ?_|refine s5 nm nm ?_|fail)
   exact PSub.refl _
 · rw [he]
   rcases hno with h | h | h | ⟨k, hk, rfl, h⟩
   · refine PSpec.of_vc (fun Γ => more8 false Γ.P Γ.fx) (fun Γ => more8_ok) Try.func35 rfl Try.call35 (by simp) ?_
     rintro ⟨P, N, w0, X, β0, fx, y, hy, pk, df⟩ rfl rfl rfl hoff rfl; change y.on = false at hoff
     repeat' ((try conv => whnf); first|(first|refine k3 ?_ ?_|refine k4 ?_ ?_) <;> intro hb <;> (try rw [lM] at hb) <;> try (exfalso; omega)|refine aq rfl ?_|fail)
     all_goals exact PSub.tup ⟨zeroTy_sub, PSub.refl _, trivial⟩
   · refine PSpec.of_vc (fun Γ => more8 false Γ.P Γ.fx) (fun Γ => more8_ok) Try.func35 rfl Try.call35 (by simp) ?_
     rintro ⟨P, N, w0, X, β0, fx, y, hy, pk, df⟩ rfl rfl rfl hoff rfl; change y.on = false at hoff
     repeat' ((try conv => whnf); first|(first|refine k3 ?_ ?_|refine k4 ?_ ?_) <;> intro hb <;> (try rw [lM] at hb) <;> try (exfalso; omega)|refine aq rfl ?_|fail)
     all_goals exact PSub.tup ⟨zeroTy_sub, PSub.refl _, trivial⟩
   · refine PSpec.of_vc (fun Γ => more8 false Γ.P Γ.fx) (fun Γ => more8_ok) Try.func35 rfl Try.call35 (by simp) ?_
     rintro ⟨P, N, w0, X, β0, fx, y, hy, pk, df⟩ rfl rfl rfl hoff rfl; change y.on = false at hoff
     repeat' ((try conv => whnf); first|(first|refine k3 ?_ ?_|refine k4 ?_ ?_) <;> intro hb <;> (try rw [lM] at hb) <;> try (exfalso; omega)|refine aq rfl ?_|fail)
     all_goals exact PSub.tup ⟨zeroTy_sub, PSub.refl _, trivial⟩
   · have hfl : (s.schemas[k].fields.map encFd).length = s.schemas[k].fields.length := List.length_map ..
     refine PSpec.of_vc (fun Γ => more8 false Γ.P Γ.fx) (fun Γ => more8_ok) Try.func35 rfl Try.call35 (by simp) ?_
     rintro ⟨P, N, w0, X, β0, fx, y, hy, pk, df⟩ rfl rfl rfl hoff rfl; change y.on = false at hoff
     repeat' ((try conv => whnf); first|(first|refine k3 ?_ ?_|refine k4 ?_ ?_) <;> intro hb <;> (try rw [lM] at hb) <;> try (exfalso; omega)|refine aq rfl ?_|refine s5 nm nm ?_|fail)
     all_goals exact PSub.tup ⟨zeroTy_sub, PSub.refl _, trivial⟩
theorem there_spec (s : Src) (a b : Int) : PSpec Try.prog 65 [.agg (encSrc s), .int a, .int b] (.bool (tyAt s a b).isSome) := by
 have hsl : (s.schemas.map encSc).length = s.schemas.length := List.length_map ..
 rcases tyAt_cases s a b with ⟨k, m, hk, hm, rfl, rfl, he⟩ | ⟨hno, he⟩
 · have hfl : (s.schemas[k].fields.map encFd).length = s.schemas[k].fields.length := List.length_map ..
   rw [he]
   refine PSpec.of_vc (fun Γ => more8 false Γ.P Γ.fx) (fun Γ => more8_ok) Try.func65 rfl Try.call65 (by simp) ?_
   rintro ⟨P, N, w0, X, β0, fx, y, hy, pk, df⟩ rfl rfl rfl hoff rfl; change y.on = false at hoff
   repeat' ((try conv => whnf); first|(first|refine k3 ?_ ?_|refine k4 ?_ ?_) <;> intro hb <;> (try rw [lM] at hb) <;> try (exfalso; omega)|refine s5 nm nm ?_|fail)
   exact sub_bool (decide_eq_true (by omega))
 · rw [he]
   rcases hno with h | h | h | ⟨k, hk, rfl, h⟩
   · refine PSpec.of_vc (fun Γ => more8 false Γ.P Γ.fx) (fun Γ => more8_ok) Try.func65 rfl Try.call65 (by simp) ?_
     rintro ⟨P, N, w0, X, β0, fx, y, hy, pk, df⟩ rfl rfl rfl hoff rfl; change y.on = false at hoff
     repeat' ((try conv => whnf); first|(first|refine k3 ?_ ?_|refine k4 ?_ ?_) <;> intro hb <;> (try rw [lM] at hb) <;> try (exfalso; omega)|fail)
     all_goals exact sub_bool (by first | rfl | exact decide_eq_false (by omega))
   · refine PSpec.of_vc (fun Γ => more8 false Γ.P Γ.fx) (fun Γ => more8_ok) Try.func65 rfl Try.call65 (by simp) ?_
     rintro ⟨P, N, w0, X, β0, fx, y, hy, pk, df⟩ rfl rfl rfl hoff rfl; change y.on = false at hoff
     repeat' ((try conv => whnf); first|(first|refine k3 ?_ ?_|refine k4 ?_ ?_) <;> intro hb <;> (try rw [lM] at hb) <;> try (exfalso; omega)|fail)
     all_goals exact sub_bool (by first | rfl | exact decide_eq_false (by omega))
   · refine PSpec.of_vc (fun Γ => more8 false Γ.P Γ.fx) (fun Γ => more8_ok) Try.func65 rfl Try.call65 (by simp) ?_
     rintro ⟨P, N, w0, X, β0, fx, y, hy, pk, df⟩ rfl rfl rfl hoff rfl; change y.on = false at hoff
     repeat' ((try conv => whnf); first|(first|refine k3 ?_ ?_|refine k4 ?_ ?_) <;> intro hb <;> (try rw [lM] at hb) <;> try (exfalso; omega)|fail)
     all_goals exact sub_bool (by first | rfl | exact decide_eq_false (by omega))
   · have hfl : (s.schemas[k].fields.map encFd).length = s.schemas[k].fields.length := List.length_map ..
     refine PSpec.of_vc (fun Γ => more8 false Γ.P Γ.fx) (fun Γ => more8_ok) Try.func65 rfl Try.call65 (by simp) ?_
     rintro ⟨P, N, w0, X, β0, fx, y, hy, pk, df⟩ rfl rfl rfl hoff rfl; change y.on = false at hoff
     repeat' ((try conv => whnf); first|(first|refine k3 ?_ ?_|refine k4 ?_ ?_) <;> intro hb <;> (try rw [lM] at hb) <;> try (exfalso; omega)|refine s5 nm nm ?_|fail)
     all_goals exact sub_bool (by first | rfl | exact decide_eq_false (by omega))
theorem rtypeOf_spec (s : Src) (k m : Nat) (hk : k < s.schemas.length) (hm : m < s.schemas[k].fields.length) : PSpec Try.prog 66 [.agg (encSrc s), .int k, .int m] (.agg (encTy s.schemas[k].fields[m].ty)) := by
 have hsl : (s.schemas.map encSc).length = s.schemas.length := List.length_map ..
 have hfl : (s.schemas[k].fields.map encFd).length = s.schemas[k].fields.length := List.length_map ..
 refine PSpec.of_vc (fun Γ => more8 false Γ.P Γ.fx) (fun Γ => more8_ok) Try.func66 rfl Try.call66 (by simp) ?_
 rintro ⟨P, N, w0, X, β0, fx, y, hy, pk, df⟩ rfl rfl rfl hoff rfl; change y.on = false at hoff
 repeat' ((try conv => whnf); first|refine aq rfl ?_|refine s5 nm nm ?_|fail)
 exact PSub.refl _
theorem value_spec (s : Src) (hs : s.sz) (a b v : Int) : PSpec Try.prog 23 [.agg (encSrc s), .int a, .int b, .int v] (.bool (valOK s a b v)) := by
 have q := typeOf_spec s a b
 rcases tyAt_cases s a b with ⟨k, m, hk, hm, rfl, rfl, he⟩ | ⟨hno, he⟩
 · have q2 := typeOK_spec s s.schemas[k].fields[m].ty (by have := (hs.ss _ (List.getElem_mem hk)).n _ (List.getElem_mem hm); omega)
   have hv : valOK s k m v = (decide (tyOK s.units.length s.schemas[k].fields[m].ty) && decide (s.schemas[k].fields[m].ty.lo ≤ v ∧ v ≤ s.schemas[k].fields[m].ty.hi)) := by
     unfold valOK; rw [he]
   rw [he] at q
   obtain ⟨o, ho⟩ : ∃ o, o = decide (tyOK s.units.length s.schemas[k].fields[m].ty) := ⟨_, rfl⟩
   rw [← ho] at q2 hv
   rw [hv]
   refine PSpec.of_vc (fun Γ => more8 false Γ.P Γ.fx) (fun Γ => more8_ok) Try.func23 rfl Try.call23 (by simp) ?_
   rintro ⟨P, N, w0, X, β0, fx, y, hy, pk, df⟩ rfl rfl rfl hoff rfl; change y.on = false at hoff
   repeat' ((try conv => whnf); first|refine aq rfl ?_|fail)
   refine .inl ⟨_, q, ?_⟩
   repeat' ((try conv => whnf); first|refine aq rfl ?_|fail)
   refine .inl ⟨_, q2, ?_⟩
   repeat' ((try conv => whnf); first|(first|refine k3 ?_ ?_|refine k4 ?_ ?_) <;> intro hb <;> (try rw [lM] at hb) <;> try (exfalso; omega)|refine k6 (fun hb => ?_) fun hb => ?_|fail)
   all_goals exact sub_bool (by first | (rw [show o = false by assumption]; rfl) | (rw [show o = true by assumption, Bool.true_and]; first | exact decide_eq_decide.2 (by omega) | exact (decide_eq_false (by omega)).symm))
 · have hv : valOK s a b v = false := by unfold valOK; rw [he]
   rw [he] at q
   rw [hv]
   refine PSpec.of_vc (fun Γ => more8 false Γ.P Γ.fx) (fun Γ => more8_ok) Try.func23 rfl Try.call23 (by simp) ?_
   rintro ⟨P, N, w0, X, β0, fx, y, hy, pk, df⟩ rfl rfl rfl hoff rfl; change y.on = false at hoff
   repeat' ((try conv => whnf); first|refine aq rfl ?_|fail)
   refine .inl ⟨_, q, ?_⟩
   repeat' ((try conv => whnf); first|refine aq rfl ?_|fail)
   exact PSub.refl _
end Go.Proofs.Ytihbkbioafdhjaa
/- Types: the reference's; schemas that are recorded. Conditions: none. -/
namespace Go.Proofs.Ytihbkbioafdhjaa
open Go.Avc
theorem nodup_of {α : Type} {l : List α} {i : Nat} (hi : i < l.length) (hn : (l.take i).Nodup) (h : ∀ j (hj : j < l.length), j < i → l[j] ≠ l[i]) : (l.take (i + 1)).Nodup := by
 rw [List.take_succ_eq_append_getElem hi]
 refine nodup_snoc.2 ⟨hn, fun hm => ?_⟩
 obtain ⟨j, hj, e⟩ := List.getElem_of_mem hm
 rw [List.length_take] at hj
 rw [List.getElem_take] at e
 exact h j (by omega) (by omega) e
theorem not_nodup {α : Type} {l : List α} {i j : Nat} (hi : i < l.length) (hj : j < l.length) (hlt : j < i) (h : l[j] = l[i]) : ¬ l.Nodup := fun hn => by
 have := (List.getElem_inj hn).1 h
 omega
attribute [local irreducible] PSub Wp PSpec Le Need Both
theorem rdifferent_spec (l : List Bs) (hl : l.length ≤ 100000) : PSpec Try.prog 67 [encSs l] (.bool (decide l.Nodup)) := by
 refine PSpec.of_vc (fun Γ => more8 false Γ.P Γ.fx) (fun Γ => more8_ok) Try.func67 rfl Try.call67 (by simp) ?_
 rintro ⟨P, N, w0, X, β0, fx, y, hy, pk, df⟩ rfl rfl rfl hoff rfl; change y.on = false at hoff
 skip
 refine Wp.loop (fun i : Nat => ⟨[(0, .pure (encSs l)), (3, .int i)], [], []⟩) (fun i => i ≤ l.length ∧ (l.take i).Nodup) (fun i => l.length - i) 0 (Le.of ?_ ?_ rfl rfl rfl) ⟨by omega, by simp⟩ ?_
 · (repeat' (first|exact trivial|refine aq ?_ ?_|exact oq|fail))
 · (repeat' (first|exact trivial|fail))
 intro i ⟨hi, hn⟩
 by_cases hi2 : i < l.length
 · refine code_sound (more := more8 false _ _) more8_ok FOK.wide _ ?_
   repeat' ((try conv => whnf); first|(first|refine k3 ?_ ?_|refine k4 ?_ ?_) <;> intro hb <;> (try rw [lM] at hb) <;> try (exfalso; omega)|fail)
   refine Wp.loop (fun j : Nat => ⟨[(0, .pure (encSs l)), (3, .int i), (4, .int j)], [], []⟩) (fun j => j ≤ i ∧ ∀ m (hm : m < l.length), m < j → l[m] ≠ l[i]) (fun j => i - j) 0 (Le.of ?_ ?_ rfl rfl rfl) ⟨by omega, fun m _ h => by omega⟩ ?_
   · (repeat' (first|exact trivial|refine aq ?_ ?_|exact oq|fail))
   · (repeat' (first|exact trivial|fail))
   intro j ⟨hj, ho⟩
   by_cases hj2 : j < i
   · have hjl : j < l.length := by omega
     refine code_sound (more := more8 false _ _) more8_ok FOK.wide _ ?_
     repeat' ((try conv => whnf); first|(first|refine k3 ?_ ?_|refine k4 ?_ ?_) <;> intro hb <;> (try rw [lM] at hb) <;> try (exfalso; omega)|fail)
     refine Wp.draw (more := more8 true _ _) more8_det more8_ok FOK.wide rfl (by decide +kernel) (by conv => lhs; reduce) ?_
     repeat' ((try conv => whnf); first|(first|refine k3 ?_ ?_|refine k4 ?_ ?_) <;> intro hb <;> (try rw [lM] at hb) <;> try (exfalso; omega)|refine s4 nm ?_|refine s5 nm nm ?_|fail)
     · have hne := not_nodup hi2 hjl hj2 (by assumption)
       rw [decide_eq_false hne]
       exact PSub.refl _
     · refine ⟨j + 1, Le.of (by (repeat' (first|exact trivial|refine aq ?_ ?_|exact oq|fail))) (by (repeat' (first|exact trivial|fail))) rfl rfl rfl, ⟨by omega, fun m hm hlt => ?_⟩, by omega⟩
       by_cases e : m = j
       · subst e; assumption
       · exact ho m hm (by omega)
   · refine code_sound (more := more8 false _ _) more8_ok FOK.wide _ ?_
     repeat' ((try conv => whnf); first|(first|refine k3 ?_ ?_|refine k4 ?_ ?_) <;> intro hb <;> (try rw [lM] at hb) <;> try (exfalso; omega)|refine s4 nm ?_|fail)
     exact ⟨i + 1, Le.of (by (repeat' (first|exact trivial|refine aq ?_ ?_|exact oq|fail))) (by (repeat' (first|exact trivial|fail))) rfl rfl rfl, ⟨by omega, nodup_of hi2 hn fun m hm h => ho m hm (by omega)⟩, by omega⟩
 · have e : i = l.length := by omega
   subst e
   rw [List.take_of_length_le (Nat.le_refl _)] at hn
   rw [decide_eq_true hn]
   refine code_sound (more := more8 false _ _) more8_ok FOK.wide _ ?_
   repeat' ((try conv => whnf); first|(first|refine k3 ?_ ?_|refine k4 ?_ ?_) <;> intro hb <;> (try rw [lM] at hb) <;> try (exfalso; omega)|fail)
   exact PSub.refl _
theorem rtype_spec (s : Src) (t : Ty) (hl : t.names.length ≤ 9223372036854775807) : PSpec Try.prog 53 [.agg (encSrc s), .agg (encTy t)] (.bool (decide (tyOK s.units.length t))) := by
 have hul : (s.units.map encUn).length = s.units.length := List.length_map ..
 have hnl : (t.names.map fun s => [PV.str s]).length = t.names.length := List.length_map ..
 have hc : t.kind = 1 ∨ t.kind = 2 ∨ t.kind = 3 ∨ t.kind = 4 ∨ (t.kind ≠ 1 ∧ t.kind ≠ 2 ∧ t.kind ≠ 3 ∧ t.kind ≠ 4) := by omega
 rcases hc with hc | hc | hc | hc | hc
 · have e : tyOK s.units.length t ↔ (0 ≤ t.lo ∧ t.lo ≤ t.hi ∧ t.hi ≤ 1048576 ∧ -1 ≤ t.unit ∧ t.unit < s.units.length ∧ t.names.length = 0) := by unfold tyOK; omega
   refine PSpec.of_vc (fun Γ => more8 false Γ.P Γ.fx) (fun Γ => more8_ok) Try.func53 rfl Try.call53 (by simp) ?_
   rintro ⟨P, N, w0, X, β0, fx, y, hy, pk, df⟩ rfl rfl rfl hoff rfl; change y.on = false at hoff
   repeat' ((try conv => whnf); first|(first|refine k3 ?_ ?_|refine k4 ?_ ?_) <;> intro hb <;> (try rw [lM] at hb) <;> try (exfalso; omega)|fail)
   all_goals exact sub_bool (by first | exact (decide_eq_false (by rw [e]; omega)).symm | exact decide_eq_decide.2 (by rw [e]; omega))
 · have e : tyOK s.units.length t ↔ (t.lo = 0 ∧ t.hi = 1023 ∧ t.unit = -1 ∧ t.names.length = 0) := by unfold tyOK; omega
   refine PSpec.of_vc (fun Γ => more8 false Γ.P Γ.fx) (fun Γ => more8_ok) Try.func53 rfl Try.call53 (by simp) ?_
   rintro ⟨P, N, w0, X, β0, fx, y, hy, pk, df⟩ rfl rfl rfl hoff rfl; change y.on = false at hoff
   repeat' ((try conv => whnf); first|(first|refine k3 ?_ ?_|refine k4 ?_ ?_) <;> intro hb <;> (try rw [lM] at hb) <;> try (exfalso; omega)|fail)
   all_goals exact sub_bool (by first | exact (decide_eq_false (by rw [e]; omega)).symm | exact decide_eq_decide.2 (by rw [e]; omega))
 · have e : tyOK s.units.length t ↔ (t.lo = 0 ∧ t.hi = 4095 ∧ t.unit = -1 ∧ t.names.length = 0) := by unfold tyOK; omega
   refine PSpec.of_vc (fun Γ => more8 false Γ.P Γ.fx) (fun Γ => more8_ok) Try.func53 rfl Try.call53 (by simp) ?_
   rintro ⟨P, N, w0, X, β0, fx, y, hy, pk, df⟩ rfl rfl rfl hoff rfl; change y.on = false at hoff
   repeat' ((try conv => whnf); first|(first|refine k3 ?_ ?_|refine k4 ?_ ?_) <;> intro hb <;> (try rw [lM] at hb) <;> try (exfalso; omega)|fail)
   all_goals exact sub_bool (by first | exact (decide_eq_false (by rw [e]; omega)).symm | exact decide_eq_decide.2 (by rw [e]; omega))
 · have q := rdifferent_spec t.names
   rw [ty4_eq hc]
   obtain ⟨b, hb0⟩ : ∃ b, b = decide t.names.Nodup := ⟨_, rfl⟩
   rw [← hb0] at q ⊢
   refine PSpec.of_vc (fun Γ => more8 false Γ.P Γ.fx) (fun Γ => more8_ok) Try.func53 rfl Try.call53 (by simp) ?_
   rintro ⟨P, N, w0, X, β0, fx, y, hy, pk, df⟩ rfl rfl rfl hoff rfl; change y.on = false at hoff
   repeat' ((try conv => whnf); first|(first|refine k3 ?_ ?_|refine k4 ?_ ?_) <;> intro hb <;> (try rw [lM] at hb) <;> try (exfalso; omega)|refine s4 nm ?_|fail)
   all_goals first
     | (refine PSub.of_eq (congrArg (fun b => PV.val (.bool b)) ?_); rw [decide_eq_false (by omega)]; rfl)
     | skip
   refine .inl ⟨_, q (by omega), ?_⟩
   skip
   refine PSub.of_eq (congrArg (fun b => PV.val (.bool b)) ?_)
   rw [decide_eq_true (by omega)]; rfl
 · rw [decide_eq_false (by unfold tyOK; omega)]
   refine PSpec.of_vc (fun Γ => more8 false Γ.P Γ.fx) (fun Γ => more8_ok) Try.func53 rfl Try.call53 (by simp) ?_
   rintro ⟨P, N, w0, X, β0, fx, y, hy, pk, df⟩ rfl rfl rfl hoff rfl; change y.on = false at hoff
   repeat' ((try conv => whnf); first|(first|refine k3 ?_ ?_|refine k4 ?_ ?_) <;> intro hb <;> (try rw [lM] at hb) <;> try (exfalso; omega)|fail)
   exact PSub.refl _
theorem rvalue_spec (s : Src) (hs : s.sz) (a b v : Int) : PSpec Try.prog 52 [.agg (encSrc s), .int a, .int b, .int v] (.bool (valOK s a b v)) := by
 have q0 := there_spec s a b
 rcases tyAt_cases s a b with ⟨k, m, hk, hm, rfl, rfl, he⟩ | ⟨hno, he⟩
 · have q := rtypeOf_spec s k m hk hm
   have q2 := rtype_spec s s.schemas[k].fields[m].ty (by have := (hs.ss _ (List.getElem_mem hk)).n _ (List.getElem_mem hm); omega)
   have hv : valOK s k m v = (decide (tyOK s.units.length s.schemas[k].fields[m].ty) && decide (s.schemas[k].fields[m].ty.lo ≤ v ∧ v ≤ s.schemas[k].fields[m].ty.hi)) := by
     unfold valOK; rw [he]
   rw [he] at q0
   obtain ⟨o, ho⟩ : ∃ o, o = decide (tyOK s.units.length s.schemas[k].fields[m].ty) := ⟨_, rfl⟩
   rw [← ho] at q2 hv
   rw [hv]
   refine PSpec.of_vc (fun Γ => more8 false Γ.P Γ.fx) (fun Γ => more8_ok) Try.func52 rfl Try.call52 (by simp) ?_
   rintro ⟨P, N, w0, X, β0, fx, y, hy, pk, df⟩ rfl rfl rfl hoff rfl; change y.on = false at hoff
   skip
   refine .inl ⟨_, q0, ?_⟩
   skip
   refine .inl ⟨_, q, ?_⟩
   repeat' ((try conv => whnf); first|refine aq rfl ?_|fail)
   refine .inl ⟨_, q2, ?_⟩
   repeat' ((try conv => whnf); first|(first|refine k3 ?_ ?_|refine k4 ?_ ?_) <;> intro hb <;> (try rw [lM] at hb) <;> try (exfalso; omega)|refine k6 (fun hb => ?_) fun hb => ?_|fail)
   all_goals exact sub_bool (by first | (rw [show o = false by assumption]; rfl) | (rw [show o = true by assumption, Bool.true_and]; first | exact decide_eq_decide.2 (by omega) | exact (decide_eq_false (by omega)).symm))
 · have hv : valOK s a b v = false := by unfold valOK; rw [he]
   rw [he] at q0
   rw [hv]
   refine PSpec.of_vc (fun Γ => more8 false Γ.P Γ.fx) (fun Γ => more8_ok) Try.func52 rfl Try.call52 (by simp) ?_
   rintro ⟨P, N, w0, X, β0, fx, y, hy, pk, df⟩ rfl rfl rfl hoff rfl; change y.on = false at hoff
   skip
   refine .inl ⟨_, q0, ?_⟩
   skip
   exact PSub.refl _
end Go.Proofs.Ytihbkbioafdhjaa
