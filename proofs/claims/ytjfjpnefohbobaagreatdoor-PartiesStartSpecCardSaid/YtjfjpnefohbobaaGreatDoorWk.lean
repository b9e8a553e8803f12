/- Evidence: records, their encodings and digests. Conditions: none. -/
import Derived.Test.YtjfjpnefohbobaaGreatDoorWd
import Derived.Test.YtjfjpnefohbobaaGreatDoorWj
import Derived.Test.YtjfjpnefohbobaaGreatDoorWg
import Derived.Test.YtjfjpnefohbobaaGreatDoorWf
import Derived.Test.YtjfjpnefohbobaaGreatDoorWh
set_option linter.unusedSimpArgs false
set_option linter.unusedVariables false
set_option maxRecDepth 20000
set_option maxHeartbeats 4000000
namespace Go.Proofs.YtjfjpnefohbobaaGreatDoor
open Go.Avc
structure Rec where
 no : Int
 party : Int
 kind : Int
 day : Int
 body : List UInt8
 prev : List UInt8
def isI (n : Int) : Prop := -9223372036854775808 ≤ n ∧ n ≤ 9223372036854775807
def Rec.ok (r : Rec) : Prop := isI r.no ∧ isI r.party ∧ isI r.kind ∧ isI r.day ∧ r.prev.length = 32
def encR (r : Rec) : List PV := .int r.no :: .int r.party :: .int r.kind :: .int r.day :: encB r.body :: dcells r.prev
def txV (l : List UInt8) : Val := .mk 2 0 ⟨l.toArray⟩ []
def recL (r : Rec) : List Val := [intV r.no, intV r.party, intV r.kind, intV r.day, txV r.body, txV r.prev]
def recV (r : Rec) : Val := lstV (recL r)
def recE (r : Rec) : List UInt8 := (recV r).enc
def evTag : ByteArray := ⟨#[101, 118, 105, 100, 101, 110, 99, 101]⟩
def recD (r : Rec) : List UInt8 := tagged evTag.data.toList (recE r)
theorem recD_eq (r : Rec) : tagged evTag.data.toList (recE r) = recD r := rfl
theorem recD_len (r : Rec) : (recD r).length = 32 := sha_len _
theorem txV_size (l : List UInt8) : (txV l).str.size = l.length := by show (l.toArray).size = _; simp
theorem txV_fits {l : List UInt8} (h : l.length ≤ 1000000) : (txV l).fits := by rw [Val.fits_iff]; exact ⟨by rw [txV_size]; omega, zero_in, by intro x hx; cases hx⟩
theorem txV_enc (l : List UInt8) : (txV l).enc = 2 :: (numL l.length ++ l) := by
 rw [Val.enc_eq, if_neg (by show ¬ (2 : Int) = 1; decide), if_pos (by rfl), txV_size]
 simp [txV, Val.str]
theorem txV_formed (l : List UInt8) : (txV l).formed = true := by rw [Val.formed_eq]; rfl
theorem intV_formed (n : Int) : (intV n).formed = true := by rw [Val.formed_eq]; rfl
theorem intV_depth (n : Int) : (intV n).depth = 0 := by rw [Val.depth_eq]; rfl
theorem txV_depth (l : List UInt8) : (txV l).depth = 0 := by rw [Val.depth_eq]; rfl
theorem recV_fits {r : Rec} (h : r.ok) (hb : r.body.length ≤ 900000) : (recV r).fits := lstV_fits (by
 simp only [recL, List.mem_cons, List.not_mem_nil, or_false]
 rintro x (rfl | rfl | rfl | rfl | rfl | rfl)
 · exact intV_fits h.1
 · exact intV_fits h.2.1
 · exact intV_fits h.2.2.1
 · exact intV_fits h.2.2.2.1
 · exact txV_fits (by omega)
 · exact txV_fits (by have := h.2.2.2.2; omega))
theorem recV_depth (r : Rec) : (recV r).depth = 1 := by
 rw [recV, lstV_depth]
 simp only [recL, depthL, intV_depth, txV_depth]
 rfl
theorem recV_check (r : Rec) : (recV r).check = 0 := check_iff.2 ⟨by
 rw [recV, lstV_formed]
 simp [recL, intV_formed, txV_formed], by rw [recV_depth]; omega⟩
theorem recE_eq (r : Rec) : recE r = 3 :: (numL 6 ++ (1 :: numL (zz r.no) ++ (1 :: numL (zz r.party) ++ (1 :: numL (zz r.kind) ++ (1 :: numL (zz r.day) ++ (2 :: (numL r.body.length ++ r.body) ++ (2 :: (numL r.prev.length ++ r.prev)))))))) := by
 unfold recE recV
 rw [lstV_enc]
 simp only [recL, bytesL, intV_enc, txV_enc, List.append_nil]
 rfl
theorem recE_len {r : Rec} (h : r.ok) (hb : r.body.length ≤ 900000) : (recE r).length ≤ r.body.length + 110 ∧ 1 ≤ (recE r).length := by
 have e1 := numL_10 (zz_lt (n := r.no) h.1)
 have e2 := numL_10 (zz_lt (n := r.party) h.2.1)
 have e3 := numL_10 (zz_lt (n := r.kind) h.2.2.1)
 have e4 := numL_10 (zz_lt (n := r.day) h.2.2.2.1)
 have e5 := numL_10 (n := r.body.length) (by omega)
 have e6 := numL_10 (n := r.prev.length) (by have := h.2.2.2.2; omega)
 have e7 := numL_10 (n := 6) (by omega)
 have h5 := h.2.2.2.2
 rw [recE_eq]
 simp only [List.length_cons, List.length_append]
 omega
theorem recV_encode {r : Rec} : (recV r).encode = (recE r, 0) := if_pos (recV_check r)
theorem kids_nil (k n : Int) (s : ByteArray) : encV (.mk k n s []) = [.int k, .int n, .val (.string s), .sl 4 []] := rfl
attribute [local irreducible] PSub Wp PSpec Le Need Both
theorem evNumber_spec (n : Int) : PSpec Tryz.prog 64 [.int n] (.agg (encV (intV n))) := by
 refine PSpec.of_vc (fun Γ => more6 false Γ.P Γ.fx) (fun Γ => more6_ok) Tryz.func64 rfl Tryz.call64 (by simp) ?_
 rintro ⟨P, N, w0, X, β0, fx, y, hy, pk, df⟩ rfl rfl rfl hoff rfl; change y.on = false at hoff
 repeat' ((try conv => whnf); first|refine aq rfl ?_|fail)
 rw [intV, kids_nil]
 exact PSub.agg ⟨PSub.refl _, PSub.refl _, PSub.refl _, PSub.nil 4, trivial⟩
theorem rvNumber_spec (n : Int) : PSpec Tryz.prog 80 [.int n] (.agg (encV (intV n))) := by
 refine PSpec.of_vc (fun Γ => more6 false Γ.P Γ.fx) (fun Γ => more6_ok) Tryz.func80 rfl Tryz.call80 (by simp) ?_
 rintro ⟨P, N, w0, X, β0, fx, y, hy, pk, df⟩ rfl rfl rfl hoff rfl; change y.on = false at hoff
 repeat' ((try conv => whnf); first|refine aq rfl ?_|fail)
 rw [intV, kids_nil]
 exact PSub.agg ⟨PSub.refl _, PSub.refl _, PSub.refl _, PSub.nil 4, trivial⟩
theorem evText_spec (l : List UInt8) (rows : List (List PV)) (hr : rows = l.map bR) : PSpec Tryz.prog 65 [.sl 1 rows] (.agg (encV (txV l))) := by
 subst hr
 refine PSpec.of_vc (fun Γ => more6 false Γ.P Γ.fx) (fun Γ => more6_ok) Tryz.func65 rfl Tryz.call65 (by simp) ?_
 rintro ⟨P, N, w0, X, β0, fx, y, hy, pk, df⟩ rfl rfl rfl hoff rfl; change y.on = false at hoff
 repeat' ((try conv => whnf); first|refine aq rfl ?_|refine s7 ?_|fail)
 rw [txV, kids_nil]
 exact PSub.agg ⟨PSub.refl _, PSub.refl _, PSub.refl _, PSub.nil 4, trivial⟩
theorem rvText_spec (l : List UInt8) (rows : List (List PV)) (hr : rows = l.map bR) : PSpec Tryz.prog 81 [.sl 1 rows] (.agg (encV (txV l))) := by
 subst hr
 refine PSpec.of_vc (fun Γ => more6 false Γ.P Γ.fx) (fun Γ => more6_ok) Tryz.func81 rfl Tryz.call81 (by simp) ?_
 rintro ⟨P, N, w0, X, β0, fx, y, hy, pk, df⟩ rfl rfl rfl hoff rfl; change y.on = false at hoff
 repeat' ((try conv => whnf); first|refine aq rfl ?_|refine s7 ?_|fail)
 rw [txV, kids_nil]
 exact PSub.agg ⟨PSub.refl _, PSub.refl _, PSub.refl _, PSub.nil 4, trivial⟩
theorem evList_spec (l : List Val) (rows : List (List PV)) (hr : rows = l.map encV) : PSpec Tryz.prog 63 [.sl 4 rows] (.agg (encV (lstV l))) := by
 subst hr
 refine PSpec.of_vc (fun Γ => more6 false Γ.P Γ.fx) (fun Γ => more6_ok) Tryz.func63 rfl Tryz.call63 (by simp) ?_
 rintro ⟨P, N, w0, X, β0, fx, y, hy, pk, df⟩ rfl rfl rfl hoff rfl; change y.on = false at hoff
 repeat' ((try conv => whnf); first|refine aq rfl ?_|fail)
 rw [encV_eq]
 exact PSub.refl (.agg [.val (.int .i64 3), .val (.int .i64 0), .val (.string ⟨#[]⟩), .sl 4 (l.map encV)])
theorem codecRec (r : Rec) (h : r.ok) (hb : r.body.length ≤ 900000) : PSpec Tryz.prog 62 [.agg (encV (lstV (recL r)))] (encBE (recE r, 0)) := by
 have hl := recE_len h hb
 have q := encode_spec (recV r) (recV_fits h hb) (by rw [recV_depth]; omega) (by show (recE r).length ≤ _; omega)
 rw [recV_encode] at q
 exact q
theorem rcodecRec (r : Rec) (h : r.ok) (hb : r.body.length ≤ 900000) : PSpec Tryz.prog 82 [.agg (encV (lstV (recL r)))] (encBE (recE r, 0)) := by
 have hl := recE_len h hb
 have q := rEncode_spec (recV r) (recV_fits h hb) (by rw [recV_depth]; omega) (by show (recE r).length ≤ _; omega)
 rw [recV_encode] at q
 exact q
attribute [local irreducible] encK Val.formed Val.depth Val.enc recV recE recD tagged sha
theorem evEncode_spec (r : Rec) (h : r.ok) (hb : r.body.length ≤ 900000) : PSpec Tryz.prog 23 [.agg (encR r)] (encBE (recE r, 0)) := by
 have hl := recE_len h hb
 refine PSpec.of_vc (fun Γ => more6 false Γ.P Γ.fx) (fun Γ => more6_ok) Tryz.func23 rfl Tryz.call23 (by simp) ?_
 rintro ⟨P, N, w0, X, β0, fx, y, hy, pk, df⟩ rfl rfl rfl hoff rfl; change y.on = false at hoff
 skip
 refine Wp.le (Le.trans (Le.frz 1 rfl) (Le.of (s' := ⟨[(1, .pure (.ptr (encR r))), (2, .pure (.val (.slice none 0 0))), (3, .int 0)], [], []⟩) ?_ ?_ rfl rfl rfl)) ?_
 · (repeat' (first|exact trivial|refine aq ?_ ?_|exact oq|fail))
 · (repeat' (first|exact trivial|fail))
 refine Wp.draw (more := more6 true _ _) more6_det more6_ok FOK.wide rfl (by decide +kernel) (by conv => lhs; reduce) ?_
 skip
 refine ⟨_, evNumber_spec _, ?_⟩
 repeat' ((try conv => whnf); first|refine aq rfl ?_|fail)
 refine ⟨_, evNumber_spec _, ?_⟩
 repeat' ((try conv => whnf); first|refine aq rfl ?_|fail)
 refine ⟨_, evNumber_spec _, ?_⟩
 repeat' ((try conv => whnf); first|refine aq rfl ?_|fail)
 refine ⟨_, evNumber_spec _, ?_⟩
 repeat' ((try conv => whnf); first|refine aq rfl ?_|fail)
 refine ⟨_, evText_spec r.body _ rfl, ?_⟩
 repeat' ((try conv => whnf); first|refine aq rfl ?_|refine aq bd ?_|fail)
 refine ⟨_, evText_spec r.prev _ (by rw [← dcells_sing h.2.2.2.2]; rfl), ?_⟩
 repeat' ((try conv => whnf); first|refine aq rfl ?_|refine aq bd ?_|fail)
 refine ⟨_, evList_spec (recL r) _ rfl, ?_⟩
 repeat' ((try conv => whnf); first|refine aq rfl ?_|fail)
 refine ⟨_, codecRec r h hb, ?_⟩
 repeat' ((try conv => whnf); first|refine aq rfl ?_|fail)
 exact PSub.refl (.tup [encB (recE r), .int 0])
theorem rvEncode_spec (r : Rec) (h : r.ok) (hb : r.body.length ≤ 900000) : PSpec Tryz.prog 27 [.agg (encR r)] (encBE (recE r, 0)) := by
 have hl := recE_len h hb
 refine PSpec.of_vc (fun Γ => more6 false Γ.P Γ.fx) (fun Γ => more6_ok) Tryz.func27 rfl Tryz.call27 (by simp) ?_
 rintro ⟨P, N, w0, X, β0, fx, y, hy, pk, df⟩ rfl rfl rfl hoff rfl; change y.on = false at hoff
 skip
 refine Wp.le (Le.trans (Le.frz 1 rfl) (Le.of (s' := ⟨[(1, .pure (.ptr (encR r))), (2, .pure (.val (.slice none 0 0))), (3, .int 0)], [], []⟩) ?_ ?_ rfl rfl rfl)) ?_
 · (repeat' (first|exact trivial|refine aq ?_ ?_|exact oq|fail))
 · (repeat' (first|exact trivial|fail))
 refine Wp.draw (more := more6 true _ _) more6_det more6_ok FOK.wide rfl (by decide +kernel) (by conv => lhs; reduce) ?_
 skip
 refine ⟨_, rvNumber_spec _, ?_⟩
 repeat' ((try conv => whnf); first|refine aq rfl ?_|fail)
 refine ⟨_, rvNumber_spec _, ?_⟩
 repeat' ((try conv => whnf); first|refine aq rfl ?_|fail)
 refine ⟨_, rvNumber_spec _, ?_⟩
 repeat' ((try conv => whnf); first|refine aq rfl ?_|fail)
 refine ⟨_, rvNumber_spec _, ?_⟩
 repeat' ((try conv => whnf); first|refine aq rfl ?_|fail)
 refine ⟨_, rvText_spec r.body _ rfl, ?_⟩
 repeat' ((try conv => whnf); first|refine aq rfl ?_|refine aq bd ?_|fail)
 refine ⟨_, rvText_spec r.prev _ (by rw [← dcells_sing h.2.2.2.2]; rfl), ?_⟩
 repeat' ((try conv => whnf); first|refine aq rfl ?_|refine aq bd ?_|fail)
 have q := rcodecRec r h hb
 rw [encV_eq] at q
 refine .inl ⟨_, q, ?_⟩
 repeat' ((try conv => whnf); first|refine aq rfl ?_|fail)
 exact PSub.refl (.tup [encB (recE r), .int 0])
theorem digest_tag : evTag.size ≤ 1000 := by decide
theorem evDigest_spec (r : Rec) (h : r.ok) (hb : r.body.length ≤ 800000) : PSpec Tryz.prog 99 [.agg (encR r)] (.agg (dcells (recD r))) := by
 have hl := recE_len h (by omega)
 have qt := tagged_spec evTag (recE r) digest_tag (by omega)
 rw [show tagged evTag.data.toList (recE r) = recD r from recD_eq r] at qt
 refine PSpec.of_vc (fun Γ => more6 false Γ.P Γ.fx) (fun Γ => more6_ok) Tryz.func99 rfl Tryz.call99 (by simp) ?_
 rintro ⟨P, N, w0, X, β0, fx, y, hy, pk, df⟩ rfl rfl rfl hoff rfl; change y.on = false at hoff
 skip
 refine .inl ⟨_, evEncode_spec r h (by omega), ?_⟩
 repeat' ((try conv => whnf); first|refine aq rfl ?_|fail)
 refine .inl ⟨_, qt, ?_⟩
 repeat' ((try conv => whnf); first|refine aq rfl ?_|refine .inr ⟨rfl, rfl, rfl, ?_⟩|refine ⟨_, singles_rfl _, ?_⟩|fail)
 exact PSub.of_eq rfl
theorem rvDigest_spec (r : Rec) (h : r.ok) (hb : r.body.length ≤ 800000) : PSpec Tryz.prog 110 [.agg (encR r)] (.agg (dcells (recD r))) := by
 have hl := recE_len h (by omega)
 have qt := rtagged_spec evTag (recE r) digest_tag (by omega)
 rw [show tagged evTag.data.toList (recE r) = recD r from recD_eq r] at qt
 refine PSpec.of_vc (fun Γ => more6 false Γ.P Γ.fx) (fun Γ => more6_ok) Tryz.func110 rfl Tryz.call110 (by simp) ?_
 rintro ⟨P, N, w0, X, β0, fx, y, hy, pk, df⟩ rfl rfl rfl hoff rfl; change y.on = false at hoff
 skip
 refine .inl ⟨_, rvEncode_spec r h (by omega), ?_⟩
 repeat' ((try conv => whnf); first|refine aq rfl ?_|fail)
 refine .inl ⟨_, qt, ?_⟩
 repeat' ((try conv => whnf); first|refine aq rfl ?_|refine .inr ⟨rfl, rfl, rfl, ?_⟩|refine ⟨_, singles_rfl _, ?_⟩|fail)
 exact PSub.of_eq rfl
end Go.Proofs.YtjfjpnefohbobaaGreatDoor
/- Evidence: arrays of bytes are compared. Conditions: none. -/
namespace Go.Avc
open Go.RowKit
theorem part_at {P : Program} {e : TypeId} {k : IntKind} (ha : aggOf P e = some false) (xs : List Int) {i : Nat} (hi : i < xs.length) (w : World) : (part e (xs.map (Value.int k)).toArray (i * 1)).run P w = .ok (.int k xs[i]) w := by
 simp only [part, Sem.run_bind, aggOf_some ha, Result.andThen_ok, Bool.false_eq_true, if_false, Nat.mul_one]
 simp [hi]
theorem equal_loop {P : Program} {e : TypeId} {k : IntKind} (he : P.underlying e = some (.int k)) (ha : aggOf P e = some false) (xs ys : List Int) (n : Nat) (hx : xs.length = n) (hy : ys.length = n) (d : Nat) (w : World) : ∀ (m i : Nat), i + m = n →
   (forIn (List.range' i m 1) ((none : Option Bool), ()) fun i _ => do
       let a ← part e (xs.map (Value.int k)).toArray (i * 1)
       let b ← part e (ys.map (Value.int k)).toArray (i * 1)
       let c ← Op.equalIn (d + 1) e a b
       if (!c) = true then pure (ForInStep.done (some false, ())) else pure (ForInStep.yield ((none : Option Bool), ()))).run P w = .ok (if xs.drop i = ys.drop i then (none, ()) else (some false, ())) w
 | 0, i, h => by
   rw [List.drop_eq_nil_of_le (by omega), List.drop_eq_nil_of_le (by omega), if_pos rfl]
   simp
 | m + 1, i, h => by
   have hi : i < xs.length := by omega
   have hj : i < ys.length := by omega
   rw [List.range'_succ, List.forIn_cons]
   simp only [Sem.run_bind, part_at ha xs hi, part_at ha ys hj, Result.andThen_ok]
   have hq : (Op.equalIn (d + 1) e (.int k xs[i]) (.int k ys[i])).run P w = .ok (xs[i] == ys[i]) w := by
     simp only [Op.equalIn, Sem.run_bind, run_underlying he, Result.andThen_ok, if_true, Sem.run_pure]
   rw [hq, Result.andThen_ok]
   by_cases e0 : xs[i] = ys[i]
   · rw [show (xs[i] == ys[i]) = true by simp [e0]]
     simp only [Bool.not_true, Bool.false_eq_true, if_false, Sem.run_pure, Result.andThen_ok]
     have := equal_loop he ha xs ys n hx hy d w m (i + 1) (by omega)
     rw [this]
     rw [List.drop_eq_getElem_cons hi, List.drop_eq_getElem_cons hj, e0]
     simp only [List.cons.injEq, true_and]
   · rw [show (xs[i] == ys[i]) = false by simp [e0]]
     simp only [Bool.not_false, if_true, Sem.run_pure, Result.andThen_ok]
     rw [if_neg (by rw [List.drop_eq_getElem_cons hi, List.drop_eq_getElem_cons hj]; simp only [List.cons.injEq, e0, false_and, not_false_eq_true])]
theorem equal_arr {P : Program} {t e : TypeId} {n : Nat} {k : IntKind} (ht : P.underlying t = some (.array n e)) (he : P.underlying e = some (.int k)) (hsz : szOf P e = some 1) (ha : aggOf P e = some false) (xs ys : List Int) (hx : xs.length = n) (hy : ys.length = n) (d : Nat) (w : World) :
   (Op.equalIn (d + 2) t (.agg (xs.map (Value.int k)).toArray) (.agg (ys.map (Value.int k)).toArray)).run P w = .ok (decide (xs = ys)) w := by
 unfold Op.equalIn
 simp only [Sem.run_bind, run_underlying ht, Result.andThen_ok, run_sizeOf hsz]
 rw [Std.Legacy.Range.forIn_eq_forIn_range']
 have := equal_loop he ha xs ys n hx hy d w n 0 (by omega)
 rw [show [:n].start = 0 from rfl, show [:n].step = 1 from rfl, show [:n].size = n by simp [Std.Legacy.Range.size], this]
 by_cases e0 : xs = ys
 · subst e0; simp
 · simp [e0]
theorem guard_arr {P : Program} {t e : TypeId} {n : Nat} {k : IntKind} (ht : P.underlying t = some (.array n e)) (he : P.underlying e = some (.int k)) (d : Nat) : P.eqGuardType (d + 2) t = false := by
 unfold Program.eqGuardType
 rw [ht]
 simp only
 unfold Program.eqGuardType
 rw [he]
theorem arrEq {P : Program} {t e : TypeId} {n : Nat} {k : IntKind} (ht : P.underlying t = some (.array n e)) (he : P.underlying e = some (.int k)) (hsz : szOf P e = some 1) (ha : aggOf P e = some false) (xs ys : List Int) (hx : xs.length = n) (hy : ys.length = n) {d : Nat} (hd : P.depth = d + 2) :
   aggEq P t (xs.map (Value.int k)).toArray (ys.map (Value.int k)).toArray (decide (xs = ys)) := by
 intro w
 refine ⟨?_, equal_arr ht he hsz ha xs ys hx hy 9998 w⟩
 simp only [eqGuard, Sem.run_bind]
 simp [run_program, hd, guard_arr ht he]
end Go.Avc
namespace Go.Proofs.YtjfjpnefohbobaaGreatDoor
open Go.Avc
def dInt (d : List UInt8) : List Int := (List.range 32).map fun i => ((d.getD i 0).toNat : Int)
theorem dInt_eq {d e : List UInt8} (hd : d.length = 32) (he : e.length = 32) : dInt d = dInt e ↔ d = e := by
 refine ⟨fun h => ?_, fun h => by rw [h]⟩
 apply List.ext_getElem (by omega)
 intro i h1 h2
 have := congrArg (fun l => l[i]?) h
 simp only [dInt, List.getElem?_map, List.getElem?_range (show i < 32 by omega), Option.map_some, Option.some.injEq] at this
 rw [← getD_of d 0 i h1, ← getD_of e 0 i h2] at this
 exact UInt8.toNat_inj.1 (by exact_mod_cast this)
theorem digEq (d e : List UInt8) (hd : d.length = 32) (he : e.length = 32) : aggEq Tryz.prog 23 ((dInt d).map (Value.int .u8)).toArray ((dInt e).map (Value.int .u8)).toArray (decide (d = e)) := by
 have h := arrEq (P := Tryz.prog) (t := 23) (e := 5) (n := 32) (k := .u8) (by kernel_rfl) (by kernel_rfl) (by kernel_rfl) (by kernel_rfl) (dInt d) (dInt e) (by simp [dInt]) (by simp [dInt]) (d := Tryz.prog.depth - 2) (by kernel_rfl)
 have e1 : decide (dInt d = dInt e) = decide (d = e) := by simp only [dInt_eq hd he]
 rw [e1] at h
 exact h
end Go.Proofs.YtjfjpnefohbobaaGreatDoor
/- Evidence: Head, SameRecord, Same, Few; fits. Conditions: none. -/
namespace Go.Proofs.YtjfjpnefohbobaaGreatDoor
open Go.Avc
def z32 : List UInt8 := List.replicate 32 0
def headOf (l : List Rec) : List UInt8 := if h : 0 < l.length then recD (l[l.length - 1]) else z32
theorem headOf_len (l : List Rec) : (headOf l).length = 32 := by
 unfold headOf
 split
 · exact recD_len _
 · rfl
theorem headAt {l : List Rec} {n : Nat} (h : n < l.length) (hn : n = l.length - 1) : recD (l[n]'h) = headOf l := by
 subst hn
 unfold headOf
 rw [dif_pos (by omega)]
theorem take_allR {α : Type} {f : α → Bool} {l : List α} {k : Nat} (h : k < l.length) : (l.take (k + 1)).all f = ((l.take k).all f && f l[k]) := by
 rw [List.take_succ_eq_append_getElem h, List.all_append]; simp
theorem all_atR {α : Type} {f : α → Bool} {l : List α} {k : Nat} (h : k < l.length) (hf : f l[k] = false) : l.all f = false := by
 rw [List.all_eq_false]; exact ⟨_, List.getElem_mem h, by simp [hf]⟩
def Rec.can (r : Rec) : Prop := r.ok ∧ r.body.length ≤ 800000
def encRs (l : List Rec) : PV := .sl 37 (l.map encR)
theorem encRs_bd {l : List Rec} {ps : List PV} (h : bdL (encRs l :: ps)) : l.length ≤ 9223372036854775807 := by
 simp only [encRs, bdL, PV.bd, List.length_map] at h
 exact h.1.1
theorem isAg {cs : List AV} : ∃ c, AV.agg cs = .agg c ∨ ∃ d, AV.agg cs = .pure (.agg d) ∧ c = pures d := ⟨_, .inl rfl⟩
theorem isAp {ps : List PV} : ∃ c, AV.pure (.agg ps) = .agg c ∨ ∃ d, AV.pure (.agg ps) = .pure (.agg d) ∧ c = pures d := ⟨_, .inr ⟨_, rfl, rfl⟩⟩
theorem ba_toArray {a b : List UInt8} : (ByteArray.mk a.toArray = ByteArray.mk b.toArray) ↔ a = b := by simp
attribute [local irreducible] PSub Wp PSpec Le Need Both
attribute [local irreducible] recE recD tagged sha headOf z32
theorem evHead_spec (l : List Rec) (hl : ∀ r ∈ l, r.can) : PSpec Tryz.prog 60 [encRs l] (.agg (dcells (headOf l))) := by
 refine PSpec.bd Tryz.call60 fun hbd => ?_
 have hlen := encRs_bd hbd
 by_cases h0 : 0 < l.length
 · refine PSpec.of_vc (fun Γ => more6 false Γ.P Γ.fx) (fun Γ => more6_ok) Tryz.func60 rfl Tryz.call60 (by simp) ?_
   rintro ⟨P, N, w0, X, β0, fx, y, hy, pk, df⟩ rfl rfl rfl hoff rfl; change y.on = false at hoff
   repeat' ((try conv => whnf); first|(first|refine k3 ?_ ?_|refine k4 ?_ ?_) <;> intro hb <;> (try rw [lM] at hb) <;> try (exfalso; omega)|refine s4 nm ?_|refine s6 nm nm ?_|fail)
   refine .inl ⟨_, evDigest_spec _ (hl _ (List.getElem_mem _)).1 (hl _ (List.getElem_mem _)).2, ?_⟩
   repeat' ((try conv => whnf); first|refine aq rfl ?_|refine .inr ⟨rfl, rfl, rfl, ?_⟩|refine ⟨_, singles_rfl _, ?_⟩|fail)
   exact PSub.of_eq (by rw [headAt _ (by rw [List.length_map]; omega)]; rfl)
 · have hh : headOf l = z32 := by unfold headOf; rw [dif_neg h0]
   rw [hh]
   refine PSpec.of_vc (fun Γ => more6 false Γ.P Γ.fx) (fun Γ => more6_ok) Tryz.func60 rfl Tryz.call60 (by simp) ?_
   rintro ⟨P, N, w0, X, β0, fx, y, hy, pk, df⟩ rfl rfl rfl hoff rfl; change y.on = false at hoff
   repeat' ((try conv => whnf); first|(first|refine k3 ?_ ?_|refine k4 ?_ ?_) <;> intro hb <;> (try rw [lM] at hb) <;> try (exfalso; omega)|refine aq rfl ?_|refine ⟨_, singles_flat _ _, ?_⟩|refine .inr ⟨rfl, rfl, rfl, ?_⟩|fail)
   exact PSub.of_eq (by unfold z32; rfl)
theorem rvHead_spec (l : List Rec) (hl : ∀ r ∈ l, r.can) : PSpec Tryz.prog 78 [encRs l] (.agg (dcells (headOf l))) := by
 refine PSpec.bd Tryz.call78 fun hbd => ?_
 have hlen := encRs_bd hbd
 by_cases h0 : 0 < l.length
 · refine PSpec.of_vc (fun Γ => more6 false Γ.P Γ.fx) (fun Γ => more6_ok) Tryz.func78 rfl Tryz.call78 (by simp) ?_
   rintro ⟨P, N, w0, X, β0, fx, y, hy, pk, df⟩ rfl rfl rfl hoff rfl; change y.on = false at hoff
   repeat' ((try conv => whnf); first|(first|refine k3 ?_ ?_|refine k4 ?_ ?_) <;> intro hb <;> (try rw [lM] at hb) <;> try (exfalso; omega)|refine s4 nm ?_|refine s6 nm nm ?_|fail)
   refine .inl ⟨_, rvDigest_spec _ (hl _ (List.getElem_mem _)).1 (hl _ (List.getElem_mem _)).2, ?_⟩
   repeat' ((try conv => whnf); first|refine aq rfl ?_|refine .inr ⟨rfl, rfl, rfl, ?_⟩|refine ⟨_, singles_rfl _, ?_⟩|fail)
   exact PSub.of_eq (by rw [headAt _ (by rw [List.length_map]; omega)]; rfl)
 · have hh : headOf l = z32 := by unfold headOf; rw [dif_neg h0]
   rw [hh]
   refine PSpec.of_vc (fun Γ => more6 false Γ.P Γ.fx) (fun Γ => more6_ok) Tryz.func78 rfl Tryz.call78 (by simp) ?_
   rintro ⟨P, N, w0, X, β0, fx, y, hy, pk, df⟩ rfl rfl rfl hoff rfl; change y.on = false at hoff
   repeat' ((try conv => whnf); first|(first|refine k3 ?_ ?_|refine k4 ?_ ?_) <;> intro hb <;> (try rw [lM] at hb) <;> try (exfalso; omega)|refine aq rfl ?_|refine .inr ⟨rfl, rfl, rfl, ?_⟩|fail)
   exact PSub.of_eq (by unfold z32; rfl)
def fewR (l : List Rec) : Bool := decide (l.length ≤ 30) && l.all fun r => decide (r.body.length ≤ 3000)
theorem rvFew_spec (l : List Rec) : PSpec Tryz.prog 21 [encRs l] (.bool (fewR l)) := by
 refine PSpec.bd Tryz.call21 fun hbd => ?_
 have hlen := encRs_bd hbd
 refine PSpec.of_vc (fun Γ => more6 false Γ.P Γ.fx) (fun Γ => more6_ok) Tryz.func21 rfl Tryz.call21 (by simp) ?_
 rintro ⟨P, N, w0, X, β0, fx, y, hy, pk, df⟩ rfl rfl rfl hoff rfl; change y.on = false at hoff
 skip
 refine Wp.loop (fun k : Nat => ⟨[(0, .pure (encRs l)), (3, .int k)], [], []⟩) (fun k => k ≤ l.length ∧ k ≤ 30 ∧ (l.take k).all (fun r => decide (r.body.length ≤ 3000)) = true) (fun k => l.length - k) 0 (Le.of ?_ ?_ rfl rfl rfl) ⟨by omega, by omega, by simp⟩ ?_
 · (repeat' (first|exact trivial|refine aq ?_ ?_|exact oq|fail))
 · (repeat' (first|exact trivial|fail))
 rintro k ⟨hk, hk30, hall⟩
 by_cases hk2 : k < l.length
 · have ht := take_allR (f := fun r : Rec => decide (r.body.length ≤ 3000)) hk2
   have ha := all_atR (f := fun r : Rec => decide (r.body.length ≤ 3000)) hk2
   refine code_sound (more := more6 false _ _) more6_ok FOK.wide _ ?_
   repeat' ((try conv => whnf); first|(first|refine k3 ?_ ?_|refine k4 ?_ ?_) <;> intro hb <;> (try rw [lM] at hb) <;> try (exfalso; omega)|refine s4 nm ?_|refine s5 nm nm ?_|fail)
   · exact PSub.val_bool (by simp [fewR, show ¬ l.length ≤ 30 by omega])
   · exact PSub.val_bool (by rw [fewR, ha (by simp; omega), Bool.and_false])
   · exact ⟨k + 1, Le.of (by (repeat' (first|exact trivial|refine aq ?_ ?_|exact oq|fail))) (by (repeat' (first|exact trivial|fail))) rfl rfl rfl, ⟨by omega, by omega, by rw [ht, hall]; simp; omega⟩, by omega⟩
 · have ek : k = l.length := by omega
   subst ek
   rw [List.take_length] at hall
   refine code_sound (more := more6 false _ _) more6_ok FOK.wide _ ?_
   repeat' ((try conv => whnf); first|(first|refine k3 ?_ ?_|refine k4 ?_ ?_) <;> intro hb <;> (try rw [lM] at hb) <;> try (exfalso; omega)|fail)
   exact PSub.val_bool (by simp [fewR, hall, hk30])
theorem Rec.ext' {a b : Rec} (h1 : a.no = b.no) (h2 : a.party = b.party) (h3 : a.kind = b.kind) (h4 : a.day = b.day) (h5 : a.body = b.body) (h6 : a.prev = b.prev) : a = b := by
 cases a; cases b; simp_all
open Classical in
noncomputable def sameB (a b : Rec) : Bool := decide (a = b)
theorem sameB_true {a b : Rec} (h : a = b) : sameB a b = true := by unfold sameB; simp [h]
theorem sameB_false {a b : Rec} (h : a ≠ b) : sameB a b = false := by unfold sameB; simp [h]
theorem rvSame_spec (a b : Rec) (ha : a.prev.length = 32) (hb0 : b.prev.length = 32) : PSpec Tryz.prog 91 [.agg (encR a), .agg (encR b)] (.bool (sameB a b)) := by
 refine PSpec.of_vc (fun Γ => more6 false Γ.P Γ.fx) (fun Γ => more6_ok) Tryz.func91 rfl Tryz.call91 (by simp) ?_
 rintro ⟨P, N, w0, X, β0, fx, y, hy, pk, df⟩ rfl rfl rfl hoff rfl; change y.on = false at hoff
 repeat' ((try conv => whnf); first|(first|refine k3 ?_ ?_|refine k4 ?_ ?_) <;> intro hb <;> (try rw [lM] at hb) <;> try (exfalso; omega)|refine s7 ?_|fail)
 · refine ⟨_, digEq a.prev b.prev ha hb0, isAg, isAg, ?_⟩
   skip
   by_cases hp : a.prev = b.prev
   · exact PSub.val_bool (by rw [sameB_true (Rec.ext' (by assumption) (by assumption) (by assumption) (by assumption) (ba_toArray.1 (by assumption)) hp)]; simp [hp])
   · exact PSub.val_bool (by rw [sameB_false (fun h => hp (by rw [h]))]; simp [hp])
 · exact PSub.val_bool (by rw [sameB_false (fun h => hb (ba_toArray.2 (by rw [h])))])
 all_goals exact PSub.val_bool (by rw [sameB_false (fun h => hb (by rw [h]))])
open Classical in
noncomputable def sameL2 (a b : List Rec) : Bool := decide (a = b)
theorem take_eqR {α : Type} {l m : List α} {k : Nat} (hl : k < l.length) (hm : k < m.length) (h : l.take k = m.take k) (he : l[k] = m[k]) : l.take (k + 1) = m.take (k + 1) := by
 rw [List.take_succ_eq_append_getElem hl, List.take_succ_eq_append_getElem hm, h, he]
theorem rvSameL_spec (a b : List Rec) (ha : ∀ r ∈ a, r.prev.length = 32) (hb0 : ∀ r ∈ b, r.prev.length = 32) : PSpec Tryz.prog 32 [encRs a, encRs b] (.bool (sameL2 a b)) := by
 refine PSpec.bd Tryz.call32 fun hbd => ?_
 have hlen := encRs_bd hbd
 refine PSpec.of_vc (fun Γ => more6 false Γ.P Γ.fx) (fun Γ => more6_ok) Tryz.func32 rfl Tryz.call32 (by simp) ?_
 rintro ⟨P, N, w0, X, β0, fx, y, hy, pk, df⟩ rfl rfl rfl hoff rfl; change y.on = false at hoff
 repeat' ((try conv => whnf); first|(first|refine k3 ?_ ?_|refine k4 ?_ ?_) <;> intro hb <;> (try rw [lM] at hb) <;> try (exfalso; omega)|fail)
 rotate_left
 · exact PSub.val_bool (by unfold sameL2; simp; intro h; subst h; exact hb (by simp))
 have hab : a.length = b.length := by rw [List.length_map] at hb; omega
 refine Wp.loop (fun k : Nat => ⟨[(0, .pure (encRs a)), (1, .pure (encRs b)), (5, .int k)], [], []⟩) (fun k => k ≤ a.length ∧ a.take k = b.take k) (fun k => a.length - k) 0 (Le.of ?_ ?_ rfl rfl rfl) ⟨by omega, by simp⟩ ?_
 · (repeat' (first|exact trivial|refine aq ?_ ?_|exact oq|fail))
 · (repeat' (first|exact trivial|fail))
 rintro k ⟨hk, heq⟩
 by_cases hk2 : k < a.length
 · have hk3 : k < b.length := by omega
   have q := rvSame_spec a[k] b[k] (ha _ (List.getElem_mem hk2)) (hb0 _ (List.getElem_mem hk3))
   obtain ⟨c, hc⟩ : ∃ c, c = sameB a[k] b[k] := ⟨_, rfl⟩
   rw [← hc] at q
   refine code_sound (more := more6 false _ _) more6_ok FOK.wide _ ?_
   repeat' ((try conv => whnf); first|(first|refine k3 ?_ ?_|refine k4 ?_ ?_) <;> intro hb <;> (try rw [lM] at hb) <;> try (exfalso; omega)|fail)
   refine Wp.draw (more := more6 true _ _) more6_det more6_ok FOK.wide rfl (by decide +kernel) (by conv => lhs; reduce) ?_
   repeat' ((try conv => whnf); first|refine s5 nm nm ?_|fail)
   refine ⟨_, q, ?_⟩
   repeat' ((try conv => whnf); first|refine k5 (fun hb => ?_) fun hb => ?_|refine s4 nm ?_|fail)
   · have he : a[k] = b[k] := by
       by_cases he : a[k] = b[k]
       · exact he
       · rw [sameB_false he] at hc; simp_all
     exact ⟨k + 1, Le.of (by (repeat' (first|exact trivial|refine aq ?_ ?_|exact oq|fail))) (by (repeat' (first|exact trivial|fail))) rfl rfl rfl, ⟨by omega, take_eqR hk2 hk3 heq he⟩, by omega⟩
   · refine PSub.val_bool ?_
     unfold sameL2
     have hne : a ≠ b := fun h => by subst h; rw [sameB_true rfl] at hc; simp_all
     simp [hne]
 · have ek : k = a.length := by omega
   have e : a = b := by rw [ek, List.take_length, hab, List.take_length] at heq; exact heq
   refine code_sound (more := more6 false _ _) more6_ok FOK.wide _ ?_
   repeat' ((try conv => whnf); first|(first|refine k3 ?_ ?_|refine k4 ?_ ?_) <;> intro hb <;> (try rw [lM] at hb) <;> try (exfalso; omega)|fail)
   exact PSub.val_bool (by unfold sameL2; simp [e])
end Go.Proofs.YtjfjpnefohbobaaGreatDoor
/- Evidence: which records fit; the reference's Check, Broken, Add. Conditions: none. -/
namespace Go.Proofs.YtjfjpnefohbobaaGreatDoor
open Go.Avc
def firstP (l : List Rec) : Int := if h : 0 < l.length then (l[0]).party else 0
def lastDay (l : List Rec) : Int := if h : 0 < l.length then (l[l.length - 1]).day else 0
theorem firstP_at {l : List Rec} (h : 0 < l.length) : (l[0]'h).party = firstP l := by unfold firstP; rw [dif_pos h]
theorem lastDay_at {l : List Rec} {n : Nat} (h : n < l.length) (hn : n = l.length - 1) : (l[n]'h).day = lastDay l := by
 subst hn; unfold lastDay; rw [dif_pos (by omega)]
structure Fits (l : List Rec) (r : Rec) : Prop where
 many : l.length < 4096
 no : r.no = l.length
 party : 0 ≤ r.party ∧ r.party < 16
 kind : 1 ≤ r.kind ∧ r.kind ≤ 9
 day : 0 ≤ r.day ∧ r.day < 1024
 body : r.body.length ≤ 65536
 prev : r.prev = headOf l
 same : l.length = 0 ∨ (r.party = firstP l ∧ lastDay l ≤ r.day)
open Classical in
noncomputable def fitsB (l : List Rec) (r : Rec) : Bool := decide (Fits l r)
theorem fitsB_true {l : List Rec} {r : Rec} (h : Fits l r) : fitsB l r = true := by unfold fitsB; simp [h]
theorem fitsB_false {l : List Rec} {r : Rec} (h : ¬ Fits l r) : fitsB l r = false := by unfold fitsB; simp [h]
theorem fitsB_iff {l : List Rec} {r : Rec} : fitsB l r = true ↔ Fits l r := by unfold fitsB; simp
attribute [local irreducible] PSub Wp PSpec Le Need Both
attribute [local irreducible] recE recD tagged sha headOf z32
theorem rvFits_spec (l : List Rec) (r : Rec) (hl : ∀ x ∈ l, x.can) (hr : r.prev.length = 32) : PSpec Tryz.prog 79 [encRs l, .agg (encR r)] (.bool (fitsB l r)) := by
 refine PSpec.bd Tryz.call79 fun hbd => ?_
 have hlen := encRs_bd hbd
 have q := rvHead_spec l hl
 have hhl := headOf_len l
 refine PSpec.of_vc (fun Γ => more6 false Γ.P Γ.fx) (fun Γ => more6_ok) Tryz.func79 rfl Tryz.call79 (by simp) ?_
 rintro ⟨P, N, w0, X, β0, fx, y, hy, pk, df⟩ rfl rfl rfl hoff rfl; change y.on = false at hoff
 skip
 refine Wp.draw (more := more6 true _ _) more6_det more6_ok FOK.wide rfl (by decide +kernel) (by conv => lhs; reduce) ?_
 repeat' ((try conv => whnf); first|(first|refine k3 ?_ ?_|refine k4 ?_ ?_) <;> intro hb <;> (try rw [lM] at hb) <;> try (exfalso; omega)|fail)
 rotate_left 9
 any_goals exact PSub.val_bool (fitsB_false (fun h => by obtain ⟨h1, h2, ⟨h3, h3'⟩, ⟨h4, h4'⟩, ⟨h5, h5'⟩, h6, h7, h8⟩ := h; omega)).symm
 refine ⟨_, q, ?_⟩
 repeat' ((try conv => whnf); first|refine aq rfl ?_|fail)
 refine ⟨_, digEq r.prev (headOf l) hr hhl, isAg, isAp, ?_⟩
 by_cases hp : r.prev = headOf l
 rotate_left
 · rw [decide_eq_false hp]
   skip
   exact PSub.val_bool (fitsB_false (fun h => hp h.prev)).symm
 rw [decide_eq_true hp]
 skip
 refine Wp.draw (more := more6 true _ _) more6_det more6_ok FOK.wide rfl (by decide +kernel) (by conv => lhs; reduce) ?_
 repeat' ((try conv => whnf); first|(first|refine k3 ?_ ?_|refine k4 ?_ ?_) <;> intro hb <;> (try rw [lM] at hb) <;> try (exfalso; omega)|refine s4 nm ?_|refine s5 nm nm ?_|refine s6 nm nm ?_|fail)
 · exact PSub.val_bool (fitsB_true ⟨by omega, by omega, by omega, by omega, by omega, by omega, hp, .inl (by omega)⟩).symm
 · have e1 := firstP_at (l := l) (by omega)
   have e2 := lastDay_at (l := l) (n := (((l.map encR).length : Int) - 1).toNat) (by rw [List.length_map]; omega) (by rw [List.length_map]; omega)
   have hb' : r.party = firstP l := Eq.trans hb e1
   refine PSub.trans (PSub.val_bool (b := decide (lastDay l ≤ r.day)) (by rw [e2])) ?_
   by_cases hd : lastDay l ≤ r.day
   · exact PSub.val_bool (by rw [fitsB_true ⟨by omega, by omega, by omega, by omega, by omega, by omega, hp, .inr ⟨hb', hd⟩⟩]; simp [hd])
   · refine PSub.val_bool ?_
     rw [fitsB_false (fun h => by have := h.same; omega)]
     simp [hd]
 · refine PSub.val_bool (fitsB_false (fun h => ?_)).symm
   have e1 := firstP_at (l := l) (by omega)
   rcases h.same with h | h
   · omega
   · exact hb (Eq.trans h.1 e1.symm)
def Valid (l : List Rec) : Prop := ∀ k (h : k < l.length), Fits (l.take k) l[k]
def errV (b : Bool) : Int := if b then 0 else 500
open Classical in
noncomputable def validB (l : List Rec) : Bool := decide (Valid l)
theorem validB_true {l : List Rec} (h : Valid l) : validB l = true := by unfold validB; simp [h]
theorem validB_false {l : List Rec} (h : ¬ Valid l) : validB l = false := by unfold validB; simp [h]
theorem cut_zero {α : Type} (l : List α) (k : Nat) : cut l 0 k = l.take k := by simp [cut]
theorem rvFitsC_spec (l : List Rec) (k : Nat) (rows : List (List PV)) (h : k < l.length) (hl : ∀ x ∈ l, x.can) (hr : rows = (l.take k).map encR) : PSpec Tryz.prog 79 [.sl 37 rows, .agg (encR l[k])] (.bool (fitsB (l.take k) l[k])) := by
 subst hr
 exact rvFits_spec (l.take k) l[k] (fun x hx => hl x (List.mem_of_mem_take hx)) (hl _ (List.getElem_mem h)).1.2.2.2.2
theorem rvCheck_spec (l : List Rec) (hl : ∀ x ∈ l, x.can) : PSpec Tryz.prog 77 [encRs l] (.int (errV (validB l))) := by
 refine PSpec.bd Tryz.call77 fun hbd => ?_
 have hlen := encRs_bd hbd
 refine PSpec.of_vc (fun Γ => more6 false Γ.P Γ.fx) (fun Γ => more6_ok) Tryz.func77 rfl Tryz.call77 (by simp) ?_
 rintro ⟨P, N, w0, X, β0, fx, y, hy, pk, df⟩ rfl rfl rfl hoff rfl; change y.on = false at hoff
 skip
 refine Wp.loop (fun k : Nat => ⟨[(0, .pure (encRs l)), (3, .int k)], [], []⟩) (fun k => k ≤ l.length ∧ ∀ j (h : j < l.length), j < k → Fits (l.take j) l[j]) (fun k => l.length - k) 0 (Le.of ?_ ?_ rfl rfl rfl) ⟨by omega, by intro j h hj; omega⟩ ?_
 · (repeat' (first|exact trivial|refine aq ?_ ?_|exact oq|fail))
 · (repeat' (first|exact trivial|fail))
 rintro k ⟨hk, hall⟩
 by_cases hk2 : k < l.length
 · refine code_sound (more := more6 false _ _) more6_ok FOK.wide _ ?_
   repeat' ((try conv => whnf); first|(first|refine k3 ?_ ?_|refine k4 ?_ ?_) <;> intro hb <;> (try rw [lM] at hb) <;> try (exfalso; omega)|fail)
   refine Wp.draw (more := more6 true _ _) more6_det more6_ok FOK.wide rfl (by decide +kernel) (by conv => lhs; reduce) ?_
   repeat' ((try conv => whnf); first|refine s5 nm nm ?_|refine aq bd ?_|fail)
   refine ⟨_, rvFitsC_spec l k _ hk2 hl (by rw [cut_map, ← cut_zero]; rfl), ?_⟩
   obtain ⟨c, hc⟩ : ∃ c, c = fitsB (l.take k) l[k] := ⟨_, rfl⟩
   rw [← hc]
   repeat' ((try conv => whnf); first|refine k5 (fun hb => ?_) fun hb => ?_|refine s4 nm ?_|fail)
   · exact ⟨k + 1, Le.of (by (repeat' (first|exact trivial|refine aq ?_ ?_|exact oq|fail))) (by (repeat' (first|exact trivial|fail))) rfl rfl rfl, ⟨by omega, fun j h hj => by
       by_cases e : j = k
       · subst e; exact fitsB_iff.1 (by rw [← hc]; assumption)
       · exact hall j h (by omega)⟩, by omega⟩
   · refine PSub.val_int ?_
     rw [validB_false (fun h => ?_)]
     · rfl
     · rw [fitsB_true (h k hk2)] at hc
       simp_all
 · refine code_sound (more := more6 false _ _) more6_ok FOK.wide _ ?_
   repeat' ((try conv => whnf); first|(first|refine k3 ?_ ?_|refine k4 ?_ ?_) <;> intro hb <;> (try rw [lM] at hb) <;> try (exfalso; omega)|fail)
   refine PSub.val_int ?_
   rw [validB_true (fun j h => hall j h (by omega))]
   rfl
end Go.Proofs.YtjfjpnefohbobaaGreatDoor
/- Evidence: the reference's Broken and Add. Conditions: none. -/
namespace Go.Proofs.YtjfjpnefohbobaaGreatDoor
open Go.Avc
structure IsBad (l : List Rec) (k : Nat) : Prop where
 lt : k < l.length
 before : ∀ j (h : j < l.length), j < k → Fits (l.take j) l[j]
 bad : ¬ Fits (l.take k) l[k]
theorem bad_or (l : List Rec) : ∀ n, n ≤ l.length → (∀ j (h : j < l.length), j < n → Fits (l.take j) l[j]) ∨ ∃ k, k < n ∧ IsBad l k
 | 0, _ => .inl (by intro j h hj; omega)
 | n + 1, h => by
   rcases bad_or l n (by omega) with h1 | ⟨k, hk, hb⟩
   · by_cases hf : Fits (l.take n) l[n]
     · refine .inl fun j hj hjn => ?_
       by_cases e : j = n
       · subst e; exact hf
       · exact h1 j hj (by omega)
     · exact .inr ⟨n, by omega, ⟨by omega, h1, hf⟩⟩
   · exact .inr ⟨k, by omega, hb⟩
theorem valid_or (l : List Rec) : Valid l ∨ ∃ k, IsBad l k := by
 rcases bad_or l l.length (Nat.le_refl _) with h | ⟨k, _, h⟩
 · exact .inl fun k hk => h k hk hk
 · exact .inr ⟨k, h⟩
theorem IsBad.not_valid {l : List Rec} {k : Nat} (h : IsBad l k) : ¬ Valid l := fun hv => h.bad (hv k h.lt)
theorem IsBad.uniq {l : List Rec} {k j : Nat} (h : IsBad l k) (h' : IsBad l j) : k = j := by
 rcases Nat.lt_trichotomy k j with g | g | g
 · exact absurd (h'.before k h.lt g) h.bad
 · exact g
 · exact absurd (h.before j h'.lt g) h'.bad
inductive BrokenIs (l : List Rec) (head : List UInt8) : Int → Bool → Prop
 | bad (k : Nat) (h : IsBad l k) : BrokenIs l head k true
 | head (hv : Valid l) (h : headOf l ≠ head) : BrokenIs l head (max ((l.length : Int) - 1) 0) true
 | ok (hv : Valid l) (h : headOf l = head) : BrokenIs l head 0 false
theorem BrokenIs.ex (l : List Rec) (head : List UInt8) : ∃ a b, BrokenIs l head a b := by
 rcases valid_or l with h | ⟨k, h⟩
 · by_cases e : headOf l = head
   · exact ⟨_, _, .ok h e⟩
   · exact ⟨_, _, .head h e⟩
 · exact ⟨_, _, .bad k h⟩
def mkR (l : List Rec) (party kind day : Int) (body : List UInt8) : Rec := ⟨l.length, party, kind, day, body, headOf l⟩
open Classical in
noncomputable def addR (l : List Rec) (r : Rec) : List Rec × Int := if Valid l then (if l.length = 4096 then ([], 2) else if Fits l r then (l ++ [r], 0) else ([], 500)) else ([], 500)
def encRE (x : List Rec × Int) : PV := .tup [encRs x.1, .int x.2]
attribute [local irreducible] PSub Wp PSpec Le Need Both
attribute [local irreducible] recE recD tagged sha headOf z32
theorem addR_bad {l : List Rec} {r : Rec} (h : ¬ Valid l) : addR l r = ([], 500) := by unfold addR; rw [if_neg h]
theorem addR_full {l : List Rec} {r : Rec} (h : Valid l) (hn : l.length = 4096) : addR l r = ([], 2) := by unfold addR; rw [if_pos h, if_pos hn]
theorem addR_no {l : List Rec} {r : Rec} (h : Valid l) (hn : l.length ≠ 4096) (hf : ¬ Fits l r) : addR l r = ([], 500) := by unfold addR; rw [if_pos h, if_neg hn, if_neg hf]
theorem addR_yes {l : List Rec} {r : Rec} (h : Valid l) (hn : l.length ≠ 4096) (hf : Fits l r) : addR l r = (l ++ [r], 0) := by unfold addR; rw [if_pos h, if_neg hn, if_pos hf]
theorem sub_addE {e : Int} {x : List Rec × Int} (h : x = ([], e)) : PSub (.tup [.val (.slice none 0 0), .val (.int .i64 e)]) (encRE x) := by
 rw [h]; exact PSub.tup ⟨PSub.nil 37, PSub.refl _, trivial⟩
theorem mkR_len (l : List Rec) (party kind day : Int) (body : List UInt8) : (mkR l party kind day body).prev.length = 32 := headOf_len l
theorem mkR_alt (l : List Rec) (party kind day : Int) (body : List UInt8) : mkR l party kind day body = ⟨((l.map encR).length : Nat), party, kind, day, body, headOf l⟩ := by rw [List.length_map]; rfl
end Go.Proofs.YtjfjpnefohbobaaGreatDoor
