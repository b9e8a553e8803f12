/- Codec: what writes the values of each kind. Conditions: none. -/
import Derived.Test.YtjfjpnefohbobaaGreatDoorWd
import Derived.Test.YtjfjpnefohbobaaGreatDoorWe
set_option linter.unusedSimpArgs false
set_option linter.unusedVariables false
set_option maxRecDepth 20000
set_option maxHeartbeats 4000000
namespace Go.Proofs.YtjfjpnefohbobaaGreatDoor
open Go.Avc
mutual
def Val.enc : Val → List UInt8
 | .mk k n s l => if k = 1 then 1 :: numL (zz n) else if k = 2 then 2 :: (numL s.size ++ s.data.toList) else 3 :: (numL l.length ++ bytesL l)
def bytesL : List Val → List UInt8
 | [] => []
 | x :: l => x.enc ++ bytesL l
end
theorem bytesL_snoc : ∀ (l : List Val) (x : Val), bytesL (l ++ [x]) = bytesL l ++ x.enc
 | [], x => by simp [bytesL]
 | y :: l, x => by simp [bytesL, bytesL_snoc l x]
theorem bytesL_app : ∀ (l m : List Val), bytesL (l ++ m) = bytesL l ++ bytesL m
 | [], m => by simp [bytesL]
 | y :: l, m => by simp [bytesL, bytesL_app l m]
theorem Val.enc_eq (v : Val) : v.enc = if v.kind = 1 then 1 :: numL (zz v.num) else if v.kind = 2 then 2 :: (numL v.str.size ++ v.str.data.toList) else 3 :: (numL v.kids.length ++ bytesL v.kids) := by
 cases v; rfl
attribute [local irreducible] PSub Wp PSpec Le Need Both
attribute [local irreducible] Val.kind Val.num Val.str Val.kids encK Val.formed Val.depth zz
theorem write1_spec (v : Val) (l : List UInt8) (hk : v.kind = 1) (hn : v.inR) (hl : l.length + v.enc.length ≤ 1000000) : GSpec Tryz.prog 129 2 ⟨[(0, .lsl 100 0 l.length), (1, .pure (.agg (encV v)))], [(100, rowB l)], [100]⟩ [] 1
   ⟨[(0, .lsl 11 0 (l ++ v.enc).length)], [(11, rowB (l ++ v.enc))], [11]⟩ := by
   have he : v.enc = 1 :: numL (zz v.num) := by rw [v.enc_eq, if_pos hk]
   have hz := zz_lt hn
   have hzl := numL_10 hz
   have q := unsigned_spec v.num hn
   obtain ⟨z, hzz⟩ : ∃ z, z = zz v.num := ⟨_, rfl⟩
   rw [← hzz] at hz hzl q he
   rw [he] at hl ⊢
   simp only [List.length_cons] at hl
   rw [encV_eq]
   refine GSpec.of_vc (fun Γ => more5 false Γ.P Γ.fx) (fun Γ => more5_ok) Tryz.func129 rfl Tryz.call129 (by decide) ?_
   rintro ⟨P, N, w0, X, β0, fx, y, hy, pk, df⟩ rfl rfl rfl hoff rfl; change y.on = false at hoff
   skip
   refine Wp.drawG (more := more5 true _ _) more5_det more5_ok FOK.wide rfl (by decide +kernel) (by conv => lhs; reduce) ?_
   repeat' ((try conv => whnf); first|refine aq bd ?_|fail)
   refine .inl ⟨_, q, ?_⟩
   skip
   obtain ⟨m, hm⟩ : ∃ m : List UInt8, m = l ++ [1] := ⟨_, rfl⟩
   refine .inr ⟨[(100, 7), (20, 11)], [.lsl 100 0 m.length, .pure (.val (.int .u64 z))], [(100, rowB m)], [100], [], 1, _, numeral_own z m hz (by rw [hm]; simp <;> omega), ⟨Or.inl (congrArg (AV.lsl 7 0) (by rw [hm]; simp)), Or.inl rfl, trivial⟩, ⟨rowEq (by rw [hm]; simp), trivial⟩, ?_⟩
   skip
   exact Le.of ⟨SubA.lsl (by rw [hm]; simp <;> omega), trivial⟩ ⟨rowEq (by rw [hm]; simp), trivial⟩ rfl rfl rfl
theorem write1_nil (v : Val) (hk : v.kind = 1) (hn : v.inR) (hl : v.enc.length ≤ 1000000) : GSpec Tryz.prog 129 2 ⟨[(0, .pure (.val (.slice none 0 0))), (1, .pure (.agg (encV v)))], [], []⟩ [] 1
   ⟨[(0, .lsl 11 0 v.enc.length)], [(11, rowB v.enc)], [11]⟩ := by
   have he : v.enc = 1 :: numL (zz v.num) := by rw [v.enc_eq, if_pos hk]
   have hz := zz_lt hn
   have hzl := numL_10 hz
   have q := unsigned_spec v.num hn
   obtain ⟨z, hzz⟩ : ∃ z, z = zz v.num := ⟨_, rfl⟩
   rw [← hzz] at hz hzl q he
   rw [he] at hl ⊢
   simp only [List.length_cons] at hl
   rw [encV_eq]
   refine GSpec.of_vc (fun Γ => more5 false Γ.P Γ.fx) (fun Γ => more5_ok) Tryz.func129 rfl Tryz.call129 (by decide) ?_
   rintro ⟨P, N, w0, X, β0, fx, y, hy, pk, df⟩ rfl rfl rfl hoff rfl; change y.on = false at hoff
   skip
   refine Wp.drawG (more := more5 true _ _) more5_det more5_ok FOK.wide rfl (by decide +kernel) (by conv => lhs; reduce) ?_
   repeat' ((try conv => whnf); first|refine aq bd ?_|fail)
   refine .inl ⟨_, q, ?_⟩
   skip
   obtain ⟨m, hm⟩ : ∃ m : List UInt8, m = ([] : List UInt8) ++ [1] := ⟨_, rfl⟩
   refine .inr ⟨[(100, 7), (20, 11)], [.lsl 100 0 m.length, .pure (.val (.int .u64 z))], [(100, rowB m)], [100], [], 1, _, numeral_own z m hz (by rw [hm]; simp <;> omega), ⟨Or.inl (congrArg (AV.lsl 7 0) (by rw [hm]; simp)), Or.inl rfl, trivial⟩, ⟨rowEq (by rw [hm]; simp), trivial⟩, ?_⟩
   skip
   exact Le.of ⟨SubA.lsl (by rw [hm]; simp <;> omega), trivial⟩ ⟨rowEq (by rw [hm]; simp), trivial⟩ rfl rfl rfl
theorem write2_spec (v : Val) (l : List UInt8) (hk : v.kind = 2) (hl : l.length + v.enc.length ≤ 1000000) : GSpec Tryz.prog 132 2 ⟨[(0, .lsl 100 0 l.length), (1, .pure (.agg (encV v)))], [(100, rowB l)], [100]⟩ [] 1
   ⟨[(0, .lsl 15 0 (l ++ v.enc).length)], [(15, rowB (l ++ v.enc))], [15]⟩ := by
   have he : v.enc = 2 :: (numL v.str.size ++ v.str.data.toList) := by rw [v.enc_eq, if_neg (by omega), if_pos hk]
   rw [he] at hl ⊢
   have hsz : v.str.data.toList.length = v.str.size := by simp
   simp only [List.length_cons, List.length_append] at hl
   have hz : v.str.size < 18446744073709551616 := by omega
   have hzl := numL_10 hz
   rw [encV_eq]
   refine GSpec.of_vc (fun Γ => more5 false Γ.P Γ.fx) (fun Γ => more5_ok) Tryz.func132 rfl Tryz.call132 (by decide) ?_
   rintro ⟨P, N, w0, X, β0, fx, y, hy, pk, df⟩ rfl rfl rfl hoff rfl; change y.on = false at hoff
   skip
   refine Wp.drawG (more := more5 true _ _) more5_det more5_ok FOK.wide rfl (by decide +kernel) (by conv => lhs; reduce) ?_
   repeat' ((try conv => whnf); first|refine aq bd ?_|fail)
   refine ⟨((v.str.size : Nat) : Int), by rw [wrap_u64]; omega, ?_⟩
   skip
   obtain ⟨m, hm⟩ : ∃ m : List UInt8, m = l ++ [2] := ⟨_, rfl⟩
   refine .inr ⟨[(100, 7), (20, 12)], [.lsl 100 0 m.length, .pure (.val (.int .u64 v.str.size))], [(100, rowB m)], [100], [], 1, _, numeral_own v.str.size m hz (by rw [hm]; simp <;> omega), ⟨Or.inl (congrArg (AV.lsl 7 0) (by rw [hm]; simp)), Or.inl rfl, trivial⟩, ⟨rowEq (by rw [hm]; simp), trivial⟩, ?_⟩
   have hml : m.length ≤ 1000000 := by rw [hm]; simp <;> omega
   repeat' ((try conv => whnf); first|refine aq bd ?_|fail)
   exact Le.of ⟨SubA.lsl (by rw [hm]; simp <;> omega), trivial⟩ ⟨rowEq (by rw [hm]; simp), trivial⟩ rfl rfl rfl
theorem write2_nil (v : Val) (hk : v.kind = 2) (hl : v.enc.length ≤ 1000000) : GSpec Tryz.prog 132 2 ⟨[(0, .pure (.val (.slice none 0 0))), (1, .pure (.agg (encV v)))], [], []⟩ [] 1
   ⟨[(0, .lsl 15 0 v.enc.length)], [(15, rowB v.enc)], [15]⟩ := by
   have he : v.enc = 2 :: (numL v.str.size ++ v.str.data.toList) := by rw [v.enc_eq, if_neg (by omega), if_pos hk]
   rw [he] at hl ⊢
   have hsz : v.str.data.toList.length = v.str.size := by simp
   simp only [List.length_cons, List.length_append] at hl
   have hz : v.str.size < 18446744073709551616 := by omega
   have hzl := numL_10 hz
   rw [encV_eq]
   refine GSpec.of_vc (fun Γ => more5 false Γ.P Γ.fx) (fun Γ => more5_ok) Tryz.func132 rfl Tryz.call132 (by decide) ?_
   rintro ⟨P, N, w0, X, β0, fx, y, hy, pk, df⟩ rfl rfl rfl hoff rfl; change y.on = false at hoff
   skip
   refine Wp.drawG (more := more5 true _ _) more5_det more5_ok FOK.wide rfl (by decide +kernel) (by conv => lhs; reduce) ?_
   repeat' ((try conv => whnf); first|refine aq bd ?_|fail)
   refine ⟨((v.str.size : Nat) : Int), by rw [wrap_u64]; omega, ?_⟩
   skip
   obtain ⟨m, hm⟩ : ∃ m : List UInt8, m = ([] : List UInt8) ++ [2] := ⟨_, rfl⟩
   refine .inr ⟨[(100, 7), (20, 12)], [.lsl 100 0 m.length, .pure (.val (.int .u64 v.str.size))], [(100, rowB m)], [100], [], 1, _, numeral_own v.str.size m hz (by rw [hm]; simp <;> omega), ⟨Or.inl (congrArg (AV.lsl 7 0) (by rw [hm]; simp)), Or.inl rfl, trivial⟩, ⟨rowEq (by rw [hm]; simp), trivial⟩, ?_⟩
   have hml : m.length ≤ 1000000 := by rw [hm]; simp <;> omega
   repeat' ((try conv => whnf); first|refine aq bd ?_|fail)
   exact Le.of ⟨SubA.lsl (by rw [hm]; simp <;> omega), trivial⟩ ⟨rowEq (by rw [hm]; simp), trivial⟩ rfl rfl rfl
end Go.Proofs.YtjfjpnefohbobaaGreatDoor
/- Codec: the table of writers. Conditions: none. -/
namespace Go.Avc
open Go.RowKit
theorem results_run {P : Program} {fn : Func} {tmps : Array Value} {w : World} {us : List Value} (h3 : us.length = fn.results.toList.length) (h5 : ∀ (j : Nat) (x : ResultVar), fn.results.toList[j]? = some x → (resSem tmps x).run P w = .ok (us.getD j undef) w) :
   (results fn tmps).run P w = .ok (if h : us.toArray.size = 1 then us.toArray[0] else .tuple us.toArray) w := by
 have hm := mapM_run (P := P) (w := w) (g := resSem tmps) h3.symm h5
 rw [results_eq, Sem.run_bind]
 have : fn.results.mapM (resSem tmps) = (Functor.map List.toArray (fn.results.toList.mapM (resSem tmps))) := by
   rw [← List.mapM_toArray]
 rw [this, Sem.run_map, hm, Result.andThen_ok, Result.andThen_ok]
 rfl
def endK (K : St → Prop) (e : Exit) (s : St) : Prop := match e with
 | .normal => K s
 | .ret => K s
 | _ => False
theorem PSpec.of_sem {P : Program} {f : FuncId} {fn : Func} {c : Code} {args : List PV} {res : PV} (more : Ctx → St → Oper → Kont → Prop) (hmore : ∀ Γ, MoreOK (more Γ) Γ) (hf : P.funcs[f]? = some fn) (hb : fn.body = some c)
   (hcall : ∀ (vs : Array Value) (w : World), (callFunc f vs).run P w = .ok (.enter f vs) w) (hl : args.length ≤ fn.ntmps) (K : St → Prop)
   (hK : ∀ (Γ : Ctx) (s : St) (a : Act) (w : World) (β : BM), Γ.P = P → K s → Rl Γ s a.tmps w β → ∃ v, (results fn a.tmps).run P w = .ok v w ∧ PR w Γ.X res v)
   (h : ∀ Γ : Ctx, Γ.P = P → Γ.N = fn.ntmps → Γ.fx = [] → Γ.y.on = false → Γ.pk = none → vcCode (more Γ) Γ Fence.wide 0 c (startSt args) (endK K)) : PSpec P f args res := by
 refine ⟨hcall, fun w X vs hgl hsz hv hX => ?_⟩
 refine (callsIn_wide (n := 0)).1 (callsIn_of_wp_marks hf hb trivial ?_)
 let Γ : Ctx := Ctx.plain P fn.ntmps w X (fun _ => none) []
 have hs := code_sound (hmore Γ) FOK.wide c (h Γ rfl rfl rfl rfl rfl)
 have hR : R Γ (startSt args) { tmps := vs ++ Array.replicate (fn.ntmps - vs.size) undef, defers := [] } w := by
   refine ⟨X, fun _ => none, ?_, fun _ h => h, fun _ _ h => h, (fun h => by cases h), (fun h => by cases h), ⟨[], rfl, List.nodup_nil, fun d hd => by cases hd⟩⟩
   refine
   { size := by show (vs ++ Array.replicate (fn.ntmps - vs.size) undef).size = fn.ntmps; rw [Array.size_append, Array.size_replicate]; omega
     slots := fun t => ?_
     blks := fun k => by simp [St.blk, startSt, lk, BO]
     inj := fun k k' bi bi' hk => by cases hk
     lt := fun k bi hk => by cases hk
     notX := fun k bi hk => by cases hk
     own := fun k bi hk => by cases hk
     fixd := fun k hk => rfl
     used1 := fun t k hk => by
       rcases startSt_get args t with e | ⟨p, _, e⟩ <;> rw [e] at hk <;> simp [AV.keys] at hk
     used2 := fun k b hk => by simp [St.blk, startSt, lk] at hk
     keep := Kp.refl _ _
     Xlt := hX
     glob := hgl.mono ⟨Nat.le_refl _, fun b _ hb => ⟨rfl, by
       rintro (hx | ⟨k, bi, hk, _⟩)
       · exact hb hx
       · cases hk⟩⟩ }
   show AR w (Av X fun _ => none) _ _ _
   rw [frame_getD]
   rcases startSt_get args t with e | ⟨p, hp, e⟩
   · rw [e]; exact .junk _
   · rw [e]
     refine .pure _ _ ((hv t p hp).mono ⟨Nat.le_refl _, fun b _ hb => ⟨rfl, ?_⟩⟩)
     rintro (hx | ⟨k, bi, hk, _⟩)
     · exact hb hx
     · cases hk
 refine wpIn_mono (hs _ w hR) ?_
 rintro e a' w' ⟨s', hKe | ⟨_, _, hpk, _⟩, hr⟩
 case inr => cases hpk
 have fin : K s' → LeavesInM Fence.wide 0 P fn a'.tmps (fun e w'' => ∃ v, e = .returned v ∧ PR w'' X res v ∧ Kp (fun _ => False) w w'') a'.defers .returning w' := fun hKs =>
   hr.leave rfl rfl fun X' β w'' hr' hsub _ _ => by
     obtain ⟨v, h1, h2⟩ := hK (Γ.atX X') s' a' w'' β rfl hKs hr'
     refine ⟨v, h1, v, rfl, h2.mono ⟨Nat.le_refl _, fun b _ hb => ⟨rfl, fun hx => hb (hsub b hx)⟩⟩, ?_⟩
     have hk := hr'.keep
     exact ⟨hk.os, hk.tape, hk.output, hk.size, fun b hb _ => hk.block b hb (by rintro ⟨k, bi, h, _⟩; cases h)⟩
 cases e with
 | normal => exact fin hKe
 | ret => exact fin hKe
 | exit id => exact hKe.elim
 | goto l => exact hKe.elim
 | panic c => exact hKe.elim
 | outgrown => exact hKe.elim
end Go.Avc
namespace Go.Proofs.YtjfjpnefohbobaaGreatDoor
open Go.Avc
def tabs : Nat → PV
 | 0 => .ptr [.val .nilFunc, .fn 129 [], .fn 132 []]
 | d + 1 => .ptr [.val .nilFunc, .fn 129 [], .fn 132 [], .fn 133 [tabs d]]
def tabA (d : Nat) : PV := .agg [.val .nilFunc, .fn 129 [], .fn 132 [], .fn 133 [tabs d]]
def cyc : List AV := [.pure (.val .nilFunc), .fn 129 [], .fn 132 [], .fn 133 [.loc 0 0 0]]
def tabK (s : St) : Prop := s.blk 0 = some (.box cyc) ∧ resVC Tryz.prog s Tryz.f101.results.toList fun vs => vs = [.agg cyc]
theorem tab_PR {Γ : Ctx} {s : St} {w : World} {β : BM} {tm : Array Value} (h : Rl Γ s tm w β) (hb : s.blk 0 = some (.box cyc)) {bi : BI} (hβ : β 0 = some bi) : ∀ d, PR w Γ.X (tabs d) (.pointer (some ⟨bi.b, 0, none⟩)) := by
 obtain ⟨bi', hβ', hv, cs, e, fz, g2, g3, g4, g5, g6⟩ := h.live hb
 rw [hβ] at hβ'
 cases hβ'
 have hcs : cs.size = 4 := g4
 have hlt := h.lt 0 bi hβ hv
 have hX := h.notX 0 bi hβ hv
 have hcell : ∀ j, j < 4 → w.cell? ((⟨bi.b, 0, none⟩ : Addr).add j) = some (cs.getD j undef) ∧ (cs.getD j undef).oneCell' = true := fun j hj => by
   have h1 := getD_cell g2 (j := j) (by omega)
   obtain ⟨av, hav⟩ : ∃ av, cyc[j]? = some av := ⟨_, List.getElem?_eq_getElem (show j < cyc.length from hj)⟩
   refine ⟨?_, (g6 j av hav).2⟩
   rw [Addr.add_lit, Nat.zero_add]
   exact h1
 have p0 : cs.getD 0 undef = .nilFunc := (g6 0 _ rfl).1.val_inv
 have p1 : ∃ vs : Array Value, cs.getD 1 undef = .func (.func 129) #[] vs ∧ vs.size = 0 := by
   have := (g6 1 (.fn 129 []) rfl).1
   generalize cs.getD 1 undef = u at this
   cases this with
   | fn _ _ vs hl _ => exact ⟨vs, rfl, hl.1⟩
 have p2 : ∃ vs : Array Value, cs.getD 2 undef = .func (.func 132) #[] vs ∧ vs.size = 0 := by
   have := (g6 2 (.fn 132 []) rfl).1
   generalize cs.getD 2 undef = u at this
   cases this with
   | fn _ _ vs hl _ => exact ⟨vs, rfl, hl.1⟩
 have p3 : ∃ vs : Array Value, cs.getD 3 undef = .func (.func 133) #[] vs ∧ vs.size = 1 ∧ vs.getD 0 undef = .pointer (some ⟨bi.b, 0, none⟩) := by
   have := (g6 3 (.fn 133 [.loc 0 0 0]) rfl).1
   generalize cs.getD 3 undef = u at this
   cases this with
   | bm _ g p v he => exact (bm_no (by decide) he).elim
   | fn _ _ vs hl hp =>
     refine ⟨vs, rfl, hl.1, ?_⟩
     have := hp 0 (.loc 0 0 0) rfl
     generalize vs.getD 0 undef = u at this
     cases this with
     | loc _ _ _ bi' hb' =>
       rw [hβ] at hb'
       cases hb'
       simp
     | locDead _ _ _ _ hb' => rw [hβ] at hb'; cases hb'
 obtain ⟨v1, e1, l1⟩ := p1
 obtain ⟨v2, e2, l2⟩ := p2
 obtain ⟨v3, e3, l3, q3⟩ := p3
 intro d
 induction d with
 | zero =>
   refine .ptr _ _ (fun j => cs.getD j undef) (fun _ => ⟨hlt, hX⟩) (fun j p hj => hcell j ?_) fun j p hj => ?_
   · have := (List.getElem?_eq_some_iff.1 hj).1
     simp at this; omega
   · match j, hj with
     | 0, hj => cases hj; rw [p0]; exact .val _
     | 1, hj => cases hj; simp only [e1]; exact .fn _ _ _ ⟨by simpa using l1, by decide⟩ (by simp)
     | 2, hj => cases hj; simp only [e2]; exact .fn _ _ _ ⟨by simpa using l2, by decide⟩ (by simp)
 | succ d ih =>
   refine .ptr _ _ (fun j => cs.getD j undef) (fun _ => ⟨hlt, hX⟩) (fun j p hj => hcell j ?_) fun j p hj => ?_
   · have := (List.getElem?_eq_some_iff.1 hj).1
     simp at this; omega
   · match j, hj with
     | 0, hj => cases hj; rw [p0]; exact .val _
     | 1, hj => cases hj; simp only [e1]; exact .fn _ _ _ ⟨by simpa using l1, by decide⟩ (by simp)
     | 2, hj => cases hj; simp only [e2]; exact .fn _ _ _ ⟨by simpa using l2, by decide⟩ (by simp)
     | 3, hj =>
       cases hj
       simp only [e3]
       refine .fn _ _ _ ⟨by simpa using l3, by decide⟩ fun j p hj => ?_
       match j, hj with
       | 0, hj => cases hj; rw [q3]; exact ih
attribute [local irreducible] PSub Wp PSpec Le Need Both
theorem writers_spec (d : Nat) : PSpec Tryz.prog 101 [] (tabA d) := by
 refine PSpec.of_sem (fun Γ => more5 false Γ.P Γ.fx) (fun Γ => more5_ok) Tryz.func101 rfl Tryz.call101 (by simp) tabK ?_ ?_
 · rintro Γ s a w β hP ⟨hb, hres⟩ hR
   obtain ⟨bi, hβ, _⟩ := hR.live hb
   have htab := tab_PR hR hb hβ d
   rw [← hP] at hres ⊢
   obtain ⟨vs, us, h1, h2, h3, h4, h5⟩ := resVC_sound hR hres
   subst h1
   have hrun := results_run (P := Γ.P) (w := w) (fn := Tryz.f101) h3 h5
   obtain ⟨u, rfl⟩ := List.length_eq_one_iff.1 h2.symm
   refine ⟨u, by rw [hrun]; simp, ?_⟩
   have ha := h4 0 (.agg cyc) rfl
   simp only [List.getD_cons_zero] at ha
   cases ha with
   | agg _ us hl hp =>
     refine .agg _ _ hl fun j p hj => ?_
     match j, hj with
     | 0, hj =>
       cases hj
       rw [show us.getD 0 undef = .nilFunc from (hp 0 _ rfl).val_inv]
       exact .val _
     | 1, hj =>
       cases hj
       have := hp 1 (.fn 129 []) rfl
       generalize us.getD 1 undef = u at this
       cases this with
       | fn _ _ vs hl _ => exact .fn _ _ _ ⟨by simpa using hl.1, hl.2⟩ (by simp)
     | 2, hj =>
       cases hj
       have := hp 2 (.fn 132 []) rfl
       generalize us.getD 2 undef = u at this
       cases this with
       | fn _ _ vs hl _ => exact .fn _ _ _ ⟨by simpa using hl.1, hl.2⟩ (by simp)
     | 3, hj =>
       cases hj
       have := hp 3 (.fn 133 [.loc 0 0 0]) rfl
       generalize us.getD 3 undef = u at this
       cases this with
       | bm _ g p v he => exact (bm_no (by decide) he).elim
       | fn _ _ vs hl hp =>
         refine .fn _ _ _ ⟨by simpa using hl.1, hl.2⟩ fun j p hj => ?_
         match j, hj with
         | 0, hj =>
           cases hj
           have := hp 0 (.loc 0 0 0) rfl
           generalize vs.getD 0 undef = u at this
           cases this with
           | loc _ _ _ bi' hb' =>
             rw [hβ] at hb'
             cases hb'
             simpa using htab
           | locDead _ _ _ _ hb' => rw [hβ] at hb'; cases hb'
 · rintro ⟨P, N, w0, X, β0, fx, y, hy, pk, df⟩ rfl rfl rfl hoff rfl; change y.on = false at hoff
   repeat' ((try conv => whnf); first|refine aq rfl ?_|refine aq bd ?_|fail)
   all_goals rfl
end Go.Proofs.YtjfjpnefohbobaaGreatDoor
/- Codec: what writes lists; Encode. Conditions: none. -/
namespace Go.Proofs.YtjfjpnefohbobaaGreatDoor
open Go.Avc
theorem formed_kids {v : Val} (h : v.formed = true) : (v.kind = 1 ∧ v.kids = [] ∨ v.kind = 2 ∧ v.kids = [] ∨ v.kind = 3) ∧ ∀ x ∈ v.kids, x.formed = true := by
 rw [v.formed_eq] at h
 split at h
 · simp only [Bool.and_eq_true, decide_eq_true_eq] at h
   have := List.eq_nil_of_length_eq_zero h.2
   exact ⟨.inl ⟨by assumption, this⟩, by rw [this]; simp⟩
 · split at h
   · simp only [Bool.and_eq_true, decide_eq_true_eq] at h
     have := List.eq_nil_of_length_eq_zero h.2
     exact ⟨.inr (.inl ⟨by assumption, this⟩), by rw [this]; simp⟩
   · split at h
     · simp only [Bool.and_eq_true, decide_eq_true_eq, List.all_eq_true] at h
       exact ⟨.inr (.inr (by assumption)), h.2⟩
     · cases h
theorem enc_pos (v : Val) : 1 ≤ v.enc.length := by
 rw [v.enc_eq]; split
 · simp
 · split <;> simp
theorem kids_le : ∀ l : List Val, l.length ≤ (bytesL l).length
 | [] => by simp [bytesL]
 | x :: l => by
   have := kids_le l
   have := enc_pos x
   simp [bytesL]; omega
theorem arg_agg {x : Val} {k : Int} (hk : x.kind = k) : ArgOK (.agg [.pure (.int k), .pure (.int x.num), .pure (.val (.string x.str)), .pure (.sl 4 (encK x))]) (.pure (.agg (encV x))) :=
 Or.inr ⟨.agg [.int k, .int x.num, .val (.string x.str), .sl 4 (encK x)], _, rfl, rfl, fun w A v h => by subst hk; exact h⟩
theorem bytesL_take {l : List Val} {k : Nat} (h : k < l.length) : bytesL (l.take (k + 1)) = bytesL (l.take k) ++ l[k].enc := by
 rw [List.take_succ_eq_append_getElem h, bytesL_snoc]
theorem bytesL_le {l : List Val} {k : Nat} : (bytesL (l.take k)).length ≤ (bytesL l).length := by
 conv => rhs; rw [← List.take_append_drop k l, bytesL_app]
 simp
attribute [local irreducible] PSub Wp PSpec Le Need Both
attribute [local irreducible] Val.kind Val.num Val.str Val.kids encK Val.formed Val.depth zz Val.fits Val.inR
theorem write3_spec : ∀ v : Val, v.fits → v.formed = true → v.kind = 3 → ∀ (d : Nat) (l : List UInt8), v.depth ≤ d + 1 → l.length + v.enc.length ≤ 1000000 →
   GSpec Tryz.prog 133 3 ⟨[(0, .lsl 100 0 l.length), (1, .pure (.agg (encV v))), (2, .pure (tabs d))], [(100, rowB l)], [100]⟩ [] 1
   ⟨[(0, .lsl 200 0 (l ++ v.enc).length)], [(200, rowB (l ++ v.enc))], [200]⟩ := by
 refine Val.ind fun v ih => ?_
 intro hfit hform hk d l hd hl
 have he : v.enc = 3 :: (numL v.kids.length ++ bytesL v.kids) := by rw [v.enc_eq, if_neg (by omega), if_neg (by omega)]
 have hdep := v.depth_eq
 rw [if_pos hk] at hdep
 rw [he] at hl ⊢
 simp only [List.length_cons, List.length_append] at hl
 have hk6 := kids_le v.kids
 have hkl : v.kids.length < 18446744073709551616 := by omega
 have hzl := numL_10 hkl
 have hfk := (formed_kids hform).2
 have h2 := (v.fits_iff.1 hfit).2.2
 rw [encV_eq]
 refine GSpec.of_vc (fun Γ => more5 false Γ.P Γ.fx) (fun Γ => more5_ok) Tryz.func133 rfl Tryz.call133 (by decide) ?_
 rintro ⟨P, N, w0, X, β0, fx, y, hy, pk, df⟩ rfl rfl rfl hoff rfl; change y.on = false at hoff
 skip
 refine Wp.drawG (more := more5 true _ _) more5_det more5_ok FOK.wide rfl (by decide +kernel) (by conv => lhs; reduce) ?_
 repeat' ((try conv => whnf); first|refine aq bd ?_|fail)
 refine ⟨((v.kids.length : Nat) : Int), by rw [wrap_u64]; simp <;> omega, ?_⟩
 skip
 obtain ⟨m, hm⟩ : ∃ m : List UInt8, m = l ++ [3] := ⟨_, rfl⟩
 have hml : m.length = l.length + 1 := by rw [hm]; simp
 try simp only [List.length_nil] at hml
 refine .inr ⟨[(100, 10), (20, 15)], [.lsl 100 0 m.length, .pure (.val (.int .u64 v.kids.length))], [(100, rowB m)], [100], [], 1, _, numeral_own v.kids.length m hkl (by rw [hm]; simp <;> omega), ⟨Or.inl (congrArg (AV.lsl 10 0) (by rw [hm]; simp)), Or.inl rfl, trivial⟩, ⟨rowEq (by rw [hm]; simp), trivial⟩, ?_⟩
 skip
 obtain ⟨B, hB⟩ : ∃ B, B = m ++ numL v.kids.length := ⟨_, rfl⟩
 have hBl : B.length = l.length + 1 + (numL v.kids.length).length := by rw [hB]; simp; omega
 try simp only [List.length_nil] at hBl
 have hfin : l ++ 3 :: (numL v.kids.length ++ bytesL v.kids) = B ++ bytesL v.kids := by rw [hB, hm]; simp
 try simp only [List.nil_append] at hfin
 rw [hfin]
 refine Wp.loop (fun k : Nat => ⟨[(0, .lsl 200 0 (B ++ bytesL (v.kids.take k)).length), (2, .pure (tabs d)), (17, .pure (.sl 4 (v.kids.map encV))), (18, .int v.kids.length), (19, .int k)], [(200, rowB (B ++ bytesL (v.kids.take k)))], [200]⟩) (fun k => k ≤ v.kids.length) (fun k => v.kids.length - k) 0 (Le.map [(200, 15)] ?_ ?_ rfl rfl rfl rfl) (by omega) ?_
 · simp only [List.take_zero, bytesL, List.append_nil, ← hB]
   (repeat' (first|exact trivial|refine aq ?_ ?_|exact oq|exact l1 bd|fail))
 · simp only [List.take_zero, bytesL, List.append_nil, ← hB]
   (repeat' (first|exact trivial|exact rfl|refine aq ?_ ?_|fail))
 intro k hkk
 have hble := bytesL_le (l := v.kids) (k := k)
 by_cases hk2 : k < v.kids.length
 · have hx := hfk _ (List.getElem_mem hk2)
   have hxf := h2 _ (List.getElem_mem hk2)
   have hxr := ((Val.fits_iff _).1 hxf).2.1
   have hxd : v.kids[k].depth ≤ depthL v.kids := by
     have h1 := depthL_get hk2
     have h2 := depthL_le (l := v.kids) (k := k + 1)
     omega
   have htk := bytesL_take hk2
   have hble2 := bytesL_le (l := v.kids) (k := k + 1)
   rw [htk] at hble2
   simp only [List.length_append] at hble2
   obtain ⟨x, hxx⟩ : ∃ x, x = v.kids[k] := ⟨_, rfl⟩
   rw [← hxx] at hx hxf hxr hxd htk hble2
   have ihx := ih x (by rw [hxx]; exact List.getElem_mem hk2) hxf hx
   obtain ⟨m2, hm2⟩ : ∃ m2, m2 = B ++ bytesL (v.kids.take k) := ⟨_, rfl⟩
   have hml2 : m2.length = B.length + (bytesL (v.kids.take k)).length := by rw [hm2]; simp
   have hm3 : B ++ bytesL (v.kids.take (k + 1)) = m2 ++ x.enc := by rw [htk, hm2]; simp
   rw [← hm2]
   rcases (formed_kids hx).1 with ⟨hkx, _⟩ | ⟨hkx, _⟩ | hkx
   all_goals (refine code_sound (more := more5 false _ _) more5_ok FOK.wide _ ?_)
   all_goals (repeat' ((try conv => whnf); first|(first|refine k3 ?_ ?_|refine k4 ?_ ?_) <;> intro hb <;> (try rw [lM] at hb) <;> try (exfalso; omega)|refine aq rfl ?_|refine s5 nm nm ?_|fail))
   all_goals simp only [← hxx, hkx]
   · rcases d with _ | d
     all_goals (refine Wp.drawG (more := more5 true _ _) more5_det more5_ok FOK.wide rfl (by decide +kernel) (by conv => lhs; reduce) ?_)
     all_goals (repeat' ((try conv => whnf); first|refine aq bd ?_|fail))
     all_goals refine .inr ⟨[(100, 200), (11, 29)], [.lsl 100 0 m2.length, .pure (.agg (encV x))], [(100, rowB m2)], [100], [], 1, _, write1_spec x m2 hkx hxr (by omega), ⟨Or.inl rfl, arg_agg hkx, trivial⟩, ⟨rfl, trivial⟩, ?_⟩
     all_goals (repeat' ((try conv => whnf); first|refine s4 nm ?_|fail))
     all_goals refine ⟨k + 1, Le.map [(200, 29)] ?_ ?_ rfl rfl rfl rfl, by omega, by omega⟩
     all_goals rw [hm3]
     all_goals ((repeat' (first|exact trivial|exact rfl|refine aq ?_ ?_|exact oq|fail)))
   · rcases d with _ | d
     all_goals (refine Wp.drawG (more := more5 true _ _) more5_det more5_ok FOK.wide rfl (by decide +kernel) (by conv => lhs; reduce) ?_)
     all_goals (repeat' ((try conv => whnf); first|refine aq bd ?_|fail))
     all_goals refine .inr ⟨[(100, 200), (15, 29)], [.lsl 100 0 m2.length, .pure (.agg (encV x))], [(100, rowB m2)], [100], [], 1, _, write2_spec x m2 hkx (by omega), ⟨Or.inl rfl, arg_agg hkx, trivial⟩, ⟨rfl, trivial⟩, ?_⟩
     all_goals (repeat' ((try conv => whnf); first|refine s4 nm ?_|fail))
     all_goals refine ⟨k + 1, Le.map [(200, 29)] ?_ ?_ rfl rfl rfl rfl, by omega, by omega⟩
     all_goals rw [hm3]
     all_goals ((repeat' (first|exact trivial|exact rfl|refine aq ?_ ?_|exact oq|fail)))
   · have hxd2 := x.depth_eq
     rw [if_pos hkx] at hxd2
     rcases d with _ | d
     · omega
     refine Wp.drawG (more := more5 true _ _) more5_det more5_ok FOK.wide rfl (by decide +kernel) (by conv => lhs; reduce) ?_
     repeat' ((try conv => whnf); first|refine aq bd ?_|fail)
     refine .inr ⟨[(100, 200), (200, 29)], [.lsl 100 0 m2.length, .pure (.agg (encV x)), .pure (tabs d)], [(100, rowB m2)], [100], [], 1, _, ihx hkx d m2 (by omega) (by omega), ⟨Or.inl rfl, arg_agg hkx, Or.inl rfl, trivial⟩, ⟨rfl, trivial⟩, ?_⟩
     repeat' ((try conv => whnf); first|refine s4 nm ?_|fail)
     refine ⟨k + 1, Le.map [(200, 29)] ?_ ?_ rfl rfl rfl rfl, by omega, by omega⟩
     all_goals rw [hm3]
     all_goals ((repeat' (first|exact trivial|exact rfl|refine aq ?_ ?_|exact oq|fail)))
 · have ek : k = v.kids.length := by omega
   subst ek
   rw [List.take_length]
   refine code_sound (more := more5 false _ _) more5_ok FOK.wide _ ?_
   repeat' ((try conv => whnf); first|(first|refine k3 ?_ ?_|refine k4 ?_ ?_) <;> intro hb <;> (try rw [lM] at hb) <;> try (exfalso; omega)|fail)
   exact Le.of (by (repeat' (first|exact trivial|refine aq ?_ ?_|exact oq|fail))) (by (repeat' (first|exact trivial|exact rfl|refine aq ?_ ?_|fail))) rfl rfl rfl
theorem write3_nil (v : Val) (hfit : v.fits) (hform : v.formed = true) (hk : v.kind = 3) (d : Nat) (hd : v.depth ≤ d + 1) (hl : v.enc.length ≤ 1000000) :
   GSpec Tryz.prog 133 3 ⟨[(0, .pure (.val (.slice none 0 0))), (1, .pure (.agg (encV v))), (2, .pure (tabs d))], [], []⟩ [] 1
   ⟨[(0, .lsl 200 0 v.enc.length)], [(200, rowB v.enc)], [200]⟩ := by
 have ih : ∀ x ∈ v.kids, x.fits → x.formed = true → x.kind = 3 → ∀ (d : Nat) (l : List UInt8), x.depth ≤ d + 1 → l.length + x.enc.length ≤ 1000000 → GSpec Tryz.prog 133 3 ⟨[(0, .lsl 100 0 l.length), (1, .pure (.agg (encV x))), (2, .pure (tabs d))], [(100, rowB l)], [100]⟩ [] 1
     ⟨[(0, .lsl 200 0 (l ++ x.enc).length)], [(200, rowB (l ++ x.enc))], [200]⟩ := fun x _ => write3_spec x
 have he : v.enc = 3 :: (numL v.kids.length ++ bytesL v.kids) := by rw [v.enc_eq, if_neg (by omega), if_neg (by omega)]
 have hdep := v.depth_eq
 rw [if_pos hk] at hdep
 rw [he] at hl ⊢
 simp only [List.length_cons, List.length_append] at hl
 have hk6 := kids_le v.kids
 have hkl : v.kids.length < 18446744073709551616 := by omega
 have hzl := numL_10 hkl
 have hfk := (formed_kids hform).2
 have h2 := (v.fits_iff.1 hfit).2.2
 rw [encV_eq]
 refine GSpec.of_vc (fun Γ => more5 false Γ.P Γ.fx) (fun Γ => more5_ok) Tryz.func133 rfl Tryz.call133 (by decide) ?_
 rintro ⟨P, N, w0, X, β0, fx, y, hy, pk, df⟩ rfl rfl rfl hoff rfl; change y.on = false at hoff
 skip
 refine Wp.drawG (more := more5 true _ _) more5_det more5_ok FOK.wide rfl (by decide +kernel) (by conv => lhs; reduce) ?_
 repeat' ((try conv => whnf); first|refine aq bd ?_|fail)
 refine ⟨((v.kids.length : Nat) : Int), by rw [wrap_u64]; simp <;> omega, ?_⟩
 skip
 obtain ⟨m, hm⟩ : ∃ m : List UInt8, m = ([] : List UInt8) ++ [3] := ⟨_, rfl⟩
 have hml : m.length = ([] : List UInt8).length + 1 := by rw [hm]; simp
 try simp only [List.length_nil] at hml
 refine .inr ⟨[(100, 10), (20, 15)], [.lsl 100 0 m.length, .pure (.val (.int .u64 v.kids.length))], [(100, rowB m)], [100], [], 1, _, numeral_own v.kids.length m hkl (by rw [hm]; simp <;> omega), ⟨Or.inl (congrArg (AV.lsl 10 0) (by rw [hm]; simp)), Or.inl rfl, trivial⟩, ⟨rowEq (by rw [hm]; simp), trivial⟩, ?_⟩
 skip
 obtain ⟨B, hB⟩ : ∃ B, B = m ++ numL v.kids.length := ⟨_, rfl⟩
 have hBl : B.length = ([] : List UInt8).length + 1 + (numL v.kids.length).length := by rw [hB]; simp; omega
 try simp only [List.length_nil] at hBl
 have hfin : ([] : List UInt8) ++ 3 :: (numL v.kids.length ++ bytesL v.kids) = B ++ bytesL v.kids := by rw [hB, hm]; simp
 try simp only [List.nil_append] at hfin
 rw [hfin]
 refine Wp.loop (fun k : Nat => ⟨[(0, .lsl 200 0 (B ++ bytesL (v.kids.take k)).length), (2, .pure (tabs d)), (17, .pure (.sl 4 (v.kids.map encV))), (18, .int v.kids.length), (19, .int k)], [(200, rowB (B ++ bytesL (v.kids.take k)))], [200]⟩) (fun k => k ≤ v.kids.length) (fun k => v.kids.length - k) 0 (Le.map [(200, 15)] ?_ ?_ rfl rfl rfl rfl) (by omega) ?_
 · simp only [List.take_zero, bytesL, List.append_nil, ← hB]
   (repeat' (first|exact trivial|refine aq ?_ ?_|exact oq|exact l1 bd|fail))
 · simp only [List.take_zero, bytesL, List.append_nil, ← hB]
   (repeat' (first|exact trivial|exact rfl|refine aq ?_ ?_|fail))
 intro k hkk
 have hble := bytesL_le (l := v.kids) (k := k)
 by_cases hk2 : k < v.kids.length
 · have hx := hfk _ (List.getElem_mem hk2)
   have hxf := h2 _ (List.getElem_mem hk2)
   have hxr := ((Val.fits_iff _).1 hxf).2.1
   have hxd : v.kids[k].depth ≤ depthL v.kids := by
     have h1 := depthL_get hk2
     have h2 := depthL_le (l := v.kids) (k := k + 1)
     omega
   have htk := bytesL_take hk2
   have hble2 := bytesL_le (l := v.kids) (k := k + 1)
   rw [htk] at hble2
   simp only [List.length_append] at hble2
   obtain ⟨x, hxx⟩ : ∃ x, x = v.kids[k] := ⟨_, rfl⟩
   rw [← hxx] at hx hxf hxr hxd htk hble2
   have ihx := ih x (by rw [hxx]; exact List.getElem_mem hk2) hxf hx
   obtain ⟨m2, hm2⟩ : ∃ m2, m2 = B ++ bytesL (v.kids.take k) := ⟨_, rfl⟩
   have hml2 : m2.length = B.length + (bytesL (v.kids.take k)).length := by rw [hm2]; simp
   have hm3 : B ++ bytesL (v.kids.take (k + 1)) = m2 ++ x.enc := by rw [htk, hm2]; simp
   rw [← hm2]
   rcases (formed_kids hx).1 with ⟨hkx, _⟩ | ⟨hkx, _⟩ | hkx
   all_goals (refine code_sound (more := more5 false _ _) more5_ok FOK.wide _ ?_)
   all_goals (repeat' ((try conv => whnf); first|(first|refine k3 ?_ ?_|refine k4 ?_ ?_) <;> intro hb <;> (try rw [lM] at hb) <;> try (exfalso; omega)|refine aq rfl ?_|refine s5 nm nm ?_|fail))
   all_goals simp only [← hxx, hkx]
   · rcases d with _ | d
     all_goals (refine Wp.drawG (more := more5 true _ _) more5_det more5_ok FOK.wide rfl (by decide +kernel) (by conv => lhs; reduce) ?_)
     all_goals (repeat' ((try conv => whnf); first|refine aq bd ?_|fail))
     all_goals refine .inr ⟨[(100, 200), (11, 29)], [.lsl 100 0 m2.length, .pure (.agg (encV x))], [(100, rowB m2)], [100], [], 1, _, write1_spec x m2 hkx hxr (by omega), ⟨Or.inl rfl, arg_agg hkx, trivial⟩, ⟨rfl, trivial⟩, ?_⟩
     all_goals (repeat' ((try conv => whnf); first|refine s4 nm ?_|fail))
     all_goals refine ⟨k + 1, Le.map [(200, 29)] ?_ ?_ rfl rfl rfl rfl, by omega, by omega⟩
     all_goals rw [hm3]
     all_goals ((repeat' (first|exact trivial|exact rfl|refine aq ?_ ?_|exact oq|fail)))
   · rcases d with _ | d
     all_goals (refine Wp.drawG (more := more5 true _ _) more5_det more5_ok FOK.wide rfl (by decide +kernel) (by conv => lhs; reduce) ?_)
     all_goals (repeat' ((try conv => whnf); first|refine aq bd ?_|fail))
     all_goals refine .inr ⟨[(100, 200), (15, 29)], [.lsl 100 0 m2.length, .pure (.agg (encV x))], [(100, rowB m2)], [100], [], 1, _, write2_spec x m2 hkx (by omega), ⟨Or.inl rfl, arg_agg hkx, trivial⟩, ⟨rfl, trivial⟩, ?_⟩
     all_goals (repeat' ((try conv => whnf); first|refine s4 nm ?_|fail))
     all_goals refine ⟨k + 1, Le.map [(200, 29)] ?_ ?_ rfl rfl rfl rfl, by omega, by omega⟩
     all_goals rw [hm3]
     all_goals ((repeat' (first|exact trivial|exact rfl|refine aq ?_ ?_|exact oq|fail)))
   · have hxd2 := x.depth_eq
     rw [if_pos hkx] at hxd2
     rcases d with _ | d
     · omega
     refine Wp.drawG (more := more5 true _ _) more5_det more5_ok FOK.wide rfl (by decide +kernel) (by conv => lhs; reduce) ?_
     repeat' ((try conv => whnf); first|refine aq bd ?_|fail)
     refine .inr ⟨[(100, 200), (200, 29)], [.lsl 100 0 m2.length, .pure (.agg (encV x)), .pure (tabs d)], [(100, rowB m2)], [100], [], 1, _, ihx hkx d m2 (by omega) (by omega), ⟨Or.inl rfl, arg_agg hkx, Or.inl rfl, trivial⟩, ⟨rfl, trivial⟩, ?_⟩
     repeat' ((try conv => whnf); first|refine s4 nm ?_|fail)
     refine ⟨k + 1, Le.map [(200, 29)] ?_ ?_ rfl rfl rfl rfl, by omega, by omega⟩
     all_goals rw [hm3]
     all_goals ((repeat' (first|exact trivial|exact rfl|refine aq ?_ ?_|exact oq|fail)))
 · have ek : k = v.kids.length := by omega
   subst ek
   rw [List.take_length]
   refine code_sound (more := more5 false _ _) more5_ok FOK.wide _ ?_
   repeat' ((try conv => whnf); first|(first|refine k3 ?_ ?_|refine k4 ?_ ?_) <;> intro hb <;> (try rw [lM] at hb) <;> try (exfalso; omega)|fail)
   exact Le.of (by (repeat' (first|exact trivial|refine aq ?_ ?_|exact oq|fail))) (by (repeat' (first|exact trivial|exact rfl|refine aq ?_ ?_|fail))) rfl rfl rfl
end Go.Proofs.YtjfjpnefohbobaaGreatDoor
/- Codec: Encode. Conditions: none. -/
namespace Go.Proofs.YtjfjpnefohbobaaGreatDoor
open Go.Avc
def Val.encode (v : Val) : List UInt8 × Int := if v.check = 0 then (v.enc, 0) else ([], v.check)
def encBE (r : List UInt8 × Int) : PV := .tup [encB r.1, .int r.2]
theorem check_ok {v : Val} (h : v.check = 0) : v.formed = true ∧ v.depth ≤ 16 := by
 unfold Val.check at h
 split at h
 · split at h
   · omega
   · exact ⟨by assumption, by omega⟩
 · omega
theorem sub_sl {sz sz' : Nat} {a b : List (List PV)} (h : a = b) (hs : sz = sz' := by rfl) : PSub (.sl sz a) (.sl sz' b) := by subst h; subst hs; exact PSub.refl _
attribute [local irreducible] PSub Wp PSpec Le Need Both
attribute [local irreducible] Val.kind Val.num Val.str Val.kids encK Val.formed Val.depth zz Val.fits Val.inR
theorem encode_spec (v : Val) (hfit : v.fits) (hd : v.depth ≤ 1000000) (hl : v.enc.length ≤ 1000000) : PSpec Tryz.prog 62 [.agg (encV v)] (encBE v.encode) := by
 have qc := check_spec v hd
 have qw := writers_spec v.depth
 have hin := ((Val.fits_iff _).1 hfit).2.1
 by_cases hc0 : v.check = 0
 · have hres : v.encode = (v.enc, 0) := if_pos hc0
   obtain ⟨hform, hdd⟩ := check_ok hc0
   rw [hres]
   rw [hc0] at qc
   rcases (formed_kids hform).1 with ⟨hkx, _⟩ | ⟨hkx, _⟩ | hkx
   all_goals (refine PSpec.of_vc (fun Γ => more5 false Γ.P Γ.fx) (fun Γ => more5_ok) Tryz.func62 rfl Tryz.call62 (by simp) ?_)
   all_goals (rintro ⟨P, N, w0, X, β0, fx, y, hy, pk, df⟩ rfl rfl rfl hoff rfl; change y.on = false at hoff)
   all_goals (skip)
   all_goals refine .inl ⟨_, qc, ?_⟩
   all_goals (skip)
   all_goals refine .inl ⟨_, qw, ?_⟩
   all_goals (repeat' ((try conv => whnf); first|refine aq rfl ?_|fail))
   all_goals simp only [hkx]
   all_goals (refine Wp.drawG (more := more5 true _ _) more5_det more5_ok FOK.wide rfl (by decide +kernel) (by conv => lhs; reduce) ?_)
   all_goals (repeat' ((try conv => whnf); first|refine aq bd ?_|fail))
   · refine .inr ⟨[(11, 17)], [.pure (.val (.slice none 0 0)), .pure (.agg (encV v))], [], [], [], 1, _, write1_nil v hkx hin hl, ⟨Or.inl rfl, arg_agg hkx, trivial⟩, trivial, ?_⟩
     exact PSub.tup ⟨sub_sl (List.take_of_length_le (by simp)), PSub.refl _, trivial⟩
   · refine .inr ⟨[(15, 17)], [.pure (.val (.slice none 0 0)), .pure (.agg (encV v))], [], [], [], 1, _, write2_nil v hkx hl, ⟨Or.inl rfl, arg_agg hkx, trivial⟩, trivial, ?_⟩
     exact PSub.tup ⟨sub_sl (List.take_of_length_le (by simp)), PSub.refl _, trivial⟩
   · refine .inr ⟨[(200, 17)], [.pure (.val (.slice none 0 0)), .pure (.agg (encV v)), .pure (tabs v.depth)], [], [], [], 1, _, write3_nil v hfit hform hkx v.depth (by omega) hl, ⟨Or.inl rfl, arg_agg hkx, Or.inl rfl, trivial⟩, trivial, ?_⟩
     exact PSub.tup ⟨sub_sl (List.take_of_length_le (by simp)), PSub.refl _, trivial⟩
 · have hres : v.encode = ([], v.check) := if_neg hc0
   rw [hres]
   obtain ⟨c, hcc⟩ : ∃ c, c = v.check := ⟨_, rfl⟩
   rw [← hcc] at qc hc0 ⊢
   refine PSpec.of_vc (fun Γ => more5 false Γ.P Γ.fx) (fun Γ => more5_ok) Tryz.func62 rfl Tryz.call62 (by simp) ?_
   rintro ⟨P, N, w0, X, β0, fx, y, hy, pk, df⟩ rfl rfl rfl hoff rfl; change y.on = false at hoff
   skip
   refine .inl ⟨_, qc, ?_⟩
   repeat' ((try conv => whnf); first|(first|refine k3 ?_ ?_|refine k4 ?_ ?_) <;> intro hb <;> (try rw [lM] at hb) <;> try (exfalso; omega)|fail)
   exact PSub.tup ⟨PSub.nil 1, PSub.refl _, trivial⟩
end Go.Proofs.YtjfjpnefohbobaaGreatDoor
/- Codec: sizes; the reference's numerals, encode, Encode, Size. Conditions: none. -/
namespace Go.Proofs.YtjfjpnefohbobaaGreatDoor
open Go.Avc
attribute [local irreducible] PSub Wp PSpec Le Need Both
attribute [local irreducible] Val.kind Val.num Val.str Val.kids encK Val.formed Val.depth zz Val.fits
theorem rnumeral_spec : ∀ (u : Nat), u < 18446744073709551616 → PSpec Tryz.prog 137 [.val (.int .u64 u)] (encB (numL u)) := by
 intro u
 induction u using Nat.strongRecOn with
 | _ u ih =>
   intro hu
   by_cases hb : u < 128
   · rw [numL_small hb]
     refine PSpec.of_vc (fun Γ => more5 false Γ.P Γ.fx) (fun Γ => more5_ok) Tryz.func137 rfl Tryz.call137 (by simp) ?_
     rintro ⟨P, N, w0, X, β0, fx, y, hy, pk, df⟩ rfl rfl rfl hoff rfl; change y.on = false at hoff
     repeat' ((try conv => whnf); first|(first|refine k3 ?_ ?_|refine k4 ?_ ?_) <;> intro hb <;> (try rw [lM] at hb) <;> try (exfalso; omega)|fail)
     refine ⟨((UInt8.ofNat u).toNat : Int), by rw [← byte_nat (by omega), IntKind.wrap_u8]; omega, ?_⟩
     repeat' ((try conv => whnf); first|refine aq bd ?_|fail)
     exact PSub.refl _
   · rw [numL_big (by omega)]
     have q := ih (u / 128) (by omega) (by omega)
     have h10 := numL_10 hu
     rw [numL_big (by omega), List.length_cons] at h10
     refine PSpec.of_vc (fun Γ => more5 false Γ.P Γ.fx) (fun Γ => more5_ok) Tryz.func137 rfl Tryz.call137 (by simp) ?_
     rintro ⟨P, N, w0, X, β0, fx, y, hy, pk, df⟩ rfl rfl rfl hoff rfl; change y.on = false at hoff
     repeat' ((try conv => whnf); first|(first|refine k3 ?_ ?_|refine k4 ?_ ?_) <;> intro hb <;> (try rw [lM] at hb) <;> try (exfalso; omega)|refine aq bd ?_|fail)
     refine ⟨((u % 128 : Nat) : Int), (Int.ofNat_tmod u 128).symm, ?_⟩
     skip
     refine ⟨((u % 128 + 128 : Nat) : Int), by rw [wrap_u64]; omega, ?_⟩
     skip
     refine ⟨((UInt8.ofNat (u % 128 + 128)).toNat : Int), by rw [← byte_nat (by omega), IntKind.wrap_u8]; omega, ?_⟩
     repeat' ((try conv => whnf); first|refine aq bd ?_|fail)
     refine ⟨((u / 128 : Nat) : Int), by rw [show (u : Int).tdiv 128 = ((u / 128 : Nat) : Int) from (Int.ofNat_tdiv u 128).symm, wrap_u64]; omega, ?_⟩
     skip
     refine .inl ⟨_, q, ?_⟩
     repeat' ((try conv => whnf); first|refine aq rfl ?_|refine aq bd ?_|fail)
     exact sub_sl (by simp; try exact List.take_of_length_le (by simp <;> omega))
theorem runsigned_spec (n : Int) (h : -9223372036854775808 ≤ n ∧ n ≤ 9223372036854775807) : PSpec Tryz.prog 138 [.int n] (.val (.int .u64 (zz n : Nat))) := by
 have hz := zz_lt h
 refine PSpec.of_vc (fun Γ => more5 false Γ.P Γ.fx) (fun Γ => more5_ok) Tryz.func138 rfl Tryz.call138 (by simp) ?_
 rintro ⟨P, N, w0, X, β0, fx, y, hy, pk, df⟩ rfl rfl rfl hoff rfl; change y.on = false at hoff
 repeat' ((try conv => whnf); first|(first|refine k3 ?_ ?_|refine k4 ?_ ?_) <;> intro hb <;> (try rw [lM] at hb) <;> try (exfalso; omega)|refine s4 nm ?_|fail)
 · have hzz : zz n = 2 * n.toNat := by unfold zz; rw [if_pos (by omega)]
   refine ⟨n, by rw [wrap_u64]; omega, ?_⟩
   skip
   refine ⟨((zz n : Nat) : Int), by rw [wrap_u64]; omega, ?_⟩
   skip
   exact PSub.refl _
 · have hzz : zz n = 2 * (-(n + 1)).toNat + 1 := by unfold zz; rw [if_neg (by omega)]
   refine ⟨-(n + 1), by rw [wrap_u64]; omega, ?_⟩
   skip
   refine ⟨2 * -(n + 1), by rw [wrap_u64]; omega, ?_⟩
   skip
   refine ⟨((zz n : Nat) : Int), by rw [wrap_u64]; omega, ?_⟩
   skip
   exact PSub.refl _
theorem rencode_spec : ∀ v : Val, v.fits → v.enc.length ≤ 1000000 → PSpec Tryz.prog 112 [.agg (encV v)] (encB v.enc) := by
 refine Val.ind fun v ih => ?_
 intro hfit hl
 have he := v.enc_eq
 have h2 := (Val.fits_iff v).1 hfit
 have hz := zz_lt h2.2.1
 have hkl := kids_le v.kids
 have qu := runsigned_spec v.num h2.2.1
 obtain ⟨z, hzz⟩ : ∃ z, z = zz v.num := ⟨_, rfl⟩
 rw [← hzz] at hz he qu
 have hz10 := numL_10 hz
 have qw := rnumeral_spec z hz
 have hsz : v.str.data.toList.length = v.str.size := by simp
 have qs := rnumeral_spec v.str.size (by omega)
 have hs10 := numL_10 (n := v.str.size) (by omega)
 obtain ⟨n, hn⟩ : ∃ n, n = v.enc := ⟨_, rfl⟩
 rw [← hn] at hl he ⊢
 rw [encV_eq]
 refine PSpec.of_vc (fun Γ => more5 false Γ.P Γ.fx) (fun Γ => more5_ok) Tryz.func112 rfl Tryz.call112 (by simp) ?_
 rintro ⟨P, N, w0, X, β0, fx, y, hy, pk, df⟩ rfl rfl rfl hoff rfl; change y.on = false at hoff
 repeat' ((try conv => whnf); first|(first|refine k3 ?_ ?_|refine k4 ?_ ?_) <;> intro hb <;> (try rw [lM] at hb) <;> try (exfalso; omega)|refine aq bd ?_|fail)
 · rw [if_pos (by assumption)] at he
   refine .inl ⟨_, qu, ?_⟩
   skip
   refine .inl ⟨_, qw, ?_⟩
   repeat' ((try conv => whnf); first|refine aq rfl ?_|refine aq bd ?_|fail)
   exact sub_sl (by rw [he]; simp; try exact List.take_of_length_le (by simp <;> omega))
 · rw [if_neg (by omega), if_pos (by assumption)] at he
   have hl2 := hl
   rw [he] at hl2
   simp only [List.length_cons, List.length_append] at hl2
   refine Wp.draw (more := more5 true _ _) more5_det more5_ok FOK.wide rfl (by decide +kernel) (by conv => lhs; reduce) ?_
   repeat' ((try conv => whnf); first|refine aq bd ?_|fail)
   refine ⟨((v.str.size : Nat) : Int), by rw [wrap_u64]; omega, ?_⟩
   skip
   refine ⟨_, qs, ?_⟩
   repeat' ((try conv => whnf); first|refine aq rfl ?_|refine aq bd ?_|fail)
   exact sub_sl (by rw [he]; simp; try exact List.take_of_length_le (by simp <;> omega))
 · rw [if_neg (by omega), if_neg (by omega)] at he
   have hl2 := hl
   rw [he] at hl2
   simp only [List.length_cons, List.length_append] at hl2
   have ql := rnumeral_spec v.kids.length (by omega)
   refine ⟨((v.kids.length : Nat) : Int), by rw [wrap_u64]; simp <;> omega, ?_⟩
   skip
   refine .inl ⟨_, ql, ?_⟩
   repeat' ((try conv => whnf); first|refine aq rfl ?_|refine aq bd ?_|fail)
   obtain ⟨B, hB⟩ : ∃ B, B = 3 :: numL v.kids.length := ⟨_, rfl⟩
   have hfin : n = B ++ bytesL v.kids := by rw [he, hB]; simp
   have hBl : B.length = (numL v.kids.length).length + 1 := by rw [hB]; simp
   refine Wp.loop (fun k : Nat => ⟨[(1, .loc 1 0 0), (3, .lsl 200 0 (B ++ bytesL (v.kids.take k)).length), (4, .int k)], [(1, some (.box [.int v.kind, .int v.num, .pure (.val (.string v.str)), .pure (.sl 4 (v.kids.map encV))])), (200, rowB (B ++ bytesL (v.kids.take k)))], [1, 200]⟩) (fun k => k ≤ v.kids.length) (fun k => v.kids.length - k) 0 (Le.map [(200, 33)] ?_ ?_ rfl rfl rfl rfl) (by omega) ?_
   · simp only [List.take_zero, bytesL, List.append_nil]
     (repeat' (first|exact trivial|refine aq ?_ ?_|exact oq|exact SubA.lsl ls|fail))
     all_goals (refine SubA.lsl ?_; rw [hB]; simp)
   · simp only [List.take_zero, bytesL, List.append_nil]
     (repeat' (first|exact trivial|refine aq ?_ ?_|refine Exists.intro _ (aq rfl ?_)|exact oq|fail))
     all_goals (refine rowEq ?_; rw [hB]; simp)
   intro k hk
   by_cases hk2 : k < v.kids.length
   · have htk := bytesL_take hk2
     have hble := bytesL_le (l := v.kids) (k := k + 1)
     have htk2 := congrArg List.length htk
     rw [List.length_append] at htk2
     have q := ih _ (List.getElem_mem hk2) (h2.2.2 _ (List.getElem_mem hk2)) (by omega)
     obtain ⟨m2, hm2⟩ : ∃ m2, m2 = B ++ bytesL (v.kids.take k) := ⟨_, rfl⟩
     have hml2 : m2.length = B.length + (bytesL (v.kids.take k)).length := by rw [hm2]; simp
     obtain ⟨ex, hex⟩ : ∃ ex, ex = v.kids[k].enc := ⟨_, rfl⟩
     rw [← hex] at q htk htk2
     have hm3 : B ++ bytesL (v.kids.take (k + 1)) = m2 ++ ex := by rw [htk, hm2]; simp
     rw [← hm2]
     refine code_sound (more := more5 false _ _) more5_ok FOK.wide _ ?_
     repeat' ((try conv => whnf); first|(first|refine k3 ?_ ?_|refine k4 ?_ ?_) <;> intro hb <;> (try rw [lM] at hb) <;> try (exfalso; omega)|refine s5 nm nm ?_|fail)
     refine .inl ⟨_, q, ?_⟩
     repeat' ((try conv => whnf); first|refine aq rfl ?_|refine s4 nm ?_|refine aq bd ?_|fail)
     refine ⟨k + 1, Le.map [(200, 48)] ?_ ?_ rfl rfl rfl rfl, by omega, by omega⟩
     all_goals rw [hm3]
     · (repeat' (first|exact trivial|refine aq ?_ ?_|exact oq|exact SubA.lsl ls|fail))
     · (repeat' (first|exact trivial|refine aq ?_ ?_|refine Exists.intro _ (aq rfl ?_)|exact oq|exact rowEq rs|fail))
       all_goals (refine rowEq ?_; simp)
   · have ek : k = v.kids.length := by omega
     subst ek
     rw [List.take_length]
     refine code_sound (more := more5 false _ _) more5_ok FOK.wide _ ?_
     repeat' ((try conv => whnf); first|(first|refine k3 ?_ ?_|refine k4 ?_ ?_) <;> intro hb <;> (try rw [lM] at hb) <;> try (exfalso; omega)|fail)
     exact sub_sl (by rw [hfin]; simp; try exact List.take_of_length_le (by simp <;> omega))
theorem rEncode_spec (v : Val) (hfit : v.fits) (hd : v.depth ≤ 1000000) (hl : v.enc.length ≤ 1000000) : PSpec Tryz.prog 82 [.agg (encV v)] (encBE v.encode) := by
 have qc := rcheck_spec v hd
 have qs := rencode_spec v hfit hl
 have hr : v.encode = if v.check = 0 then (v.enc, 0) else ([], v.check) := rfl
 obtain ⟨c, hc⟩ : ∃ c, c = v.check := ⟨_, rfl⟩
 obtain ⟨n, hn⟩ : ∃ n, n = v.enc := ⟨_, rfl⟩
 rw [← hc] at qc hr
 rw [← hn] at qs hr
 rw [hr]
 refine PSpec.of_vc (fun Γ => more5 false Γ.P Γ.fx) (fun Γ => more5_ok) Tryz.func82 rfl Tryz.call82 (by simp) ?_
 rintro ⟨P, N, w0, X, β0, fx, y, hy, pk, df⟩ rfl rfl rfl hoff rfl; change y.on = false at hoff
 skip
 refine .inl ⟨_, qc, ?_⟩
 repeat' ((try conv => whnf); first|(first|refine k3 ?_ ?_|refine k4 ?_ ?_) <;> intro hb <;> (try rw [lM] at hb) <;> try (exfalso; omega)|fail)
 · refine .inl ⟨_, qs, ?_⟩
   repeat' ((try conv => whnf); first|refine aq rfl ?_|fail)
   exact PSub.tup ⟨PSub.of_eq (by rw [if_pos (by assumption)]), PSub.val_int (by rw [if_pos (by assumption)]), trivial⟩
 · rw [if_neg (by assumption)]
   exact PSub.tup ⟨PSub.nil 1, PSub.refl _, trivial⟩
end Go.Proofs.YtjfjpnefohbobaaGreatDoor
