/- Versions: conversions that are two-way. Conditions: none. -/
import Derived.Test.YtihbkbioafdhjaaWd
import Derived.Test.YtihbkbioafdhjaaWi
set_option linter.unusedSimpArgs false
set_option linter.unusedVariables false
set_option maxRecDepth 20000
set_option maxHeartbeats 4000000
namespace Go.Proofs.Ytihbkbioafdhjaa
open Go.Avc
def zeroMv : Mv := ⟨⟨#[]⟩, ⟨#[]⟩, 0, 0, 0⟩
def zeroFd : Fd := ⟨⟨#[]⟩, zeroTy, 0, 0, 0, 0⟩
def mvP (fa fb : List Fd) (l : List Mv) (j : Nat) : Prop :=
 (1 ≤ (l.getD j zeroMv).a ∧ (l.getD j zeroMv).a < fa.length ∧ 1 ≤ (l.getD j zeroMv).b ∧ (l.getD j zeroMv).b < fb.length) ∧
 (l.getD j zeroMv).a ∉ (l.take j).map (·.a) ∧ (l.getD j zeroMv).b ∉ (l.take j).map (·.b) ∧
 fitP (fa.getD (l.getD j zeroMv).a.toNat zeroFd).ty (fb.getD (l.getD j zeroMv).b.toNat zeroFd).ty (l.getD j zeroMv).shift
instance (fa fb : List Fd) (l : List Mv) (j : Nat) : Decidable (mvP fa fb l j) := by unfold mvP; infer_instance
def fieldsAt (s : Src) (a : Int) : List Fd := ((s.schemas[a.toNat]?).map Sc.fields).getD []
def twoP (s : Src) (c : Cv) : Prop := c.a ≠ c.b ∧ wholeAt s c.a = true ∧ wholeAt s c.b = true ∧ (fieldsAt s c.a).length = c.moves.length + 1 ∧ (fieldsAt s c.b).length = c.moves.length + 1 ∧
 ∀ j, j < c.moves.length → mvP (fieldsAt s c.a) (fieldsAt s c.b) c.moves j
instance (s : Src) (c : Cv) : Decidable (twoP s c) := by unfold twoP; infer_instance
theorem fieldsAt_nat {s : Src} {k : Nat} (hk : k < s.schemas.length) : fieldsAt s k = s.schemas[k].fields := by
 unfold fieldsAt
 rw [Int.toNat_natCast, List.getElem?_eq_getElem hk]
 rfl
theorem wholeAt_in {s : Src} {a : Int} (h : wholeAt s a = true) : ∃ (k : Nat) (hk : k < s.schemas.length), a = k ∧ wholeB s.units.length s.schemas[k].fields = true := by
 by_cases hr : a < 0 ∨ (s.schemas.length : Int) ≤ a
 · rw [wholeAt_no s a hr] at h; cases h
 · obtain ⟨k, rfl⟩ : ∃ k : Nat, a = k := ⟨a.toNat, by omega⟩
   have hk : k < s.schemas.length := by omega
   rw [wholeAt_nat s k hk] at h
   exact ⟨k, hk, rfl, h⟩
theorem wholeB_small {nu : Nat} {l : List Fd} (h : wholeB nu l = true) {i : Nat} (hi : i < l.length) : l[i].ty.small ∧ tyOK nu l[i].ty := by
 unfold wholeB at h
 rw [Bool.and_eq_true] at h
 have := List.all_eq_true.1 h.1 _ (List.getElem_mem hi)
 have := of_decide_eq_true this
 exact ⟨(tyOK_small this).1, this⟩
def uB (xs : List Int) (n : Nat) : List (List PV) := (List.range n).map fun (x : Nat) => [PV.bool (decide ((x : Int) ∈ xs))]
theorem uB_nil (n : Nat) : uB [] n = List.replicate n [PV.bool false] := by
 unfold uB
 refine List.ext_getElem (by simp) fun i h1 h2 => ?_
 simp
theorem uB_len (xs : List Int) (n : Nat) : (uB xs n).length = n := by simp [uB]
theorem uB_at (xs : List Int) (n p : Nat) (h : p < n) : (uB xs n)[p]? = some [PV.bool (decide ((p : Int) ∈ xs))] := by
 simp [uB, List.getElem?_map, List.getElem?_range h]
theorem uB_set (xs : List Int) (n p : Nat) (h : p < n) : uB (xs ++ [(p : Int)]) n = (uB xs n).set p [PV.bool true] := by
 refine List.ext_getElem (by simp [uB]) fun i h1 h2 => ?_
 rw [List.getElem_set]
 simp only [uB, List.getElem_map, List.getElem_range, List.mem_append, List.mem_singleton]
 by_cases e : p = i
 · subst e; simp
 · have : ¬ (i : Int) = p := by omega
   simp [e, this]
theorem takeA {l : List Mv} {i : Nat} (h : i < l.length) : (l.take (i + 1)).map (·.a) = (l.take i).map (·.a) ++ [l[i].a] := by rw [List.take_succ_eq_append_getElem h, List.map_append]; rfl
theorem takeB {l : List Mv} {i : Nat} (h : i < l.length) : (l.take (i + 1)).map (·.b) = (l.take i).map (·.b) ++ [l[i].b] := by rw [List.take_succ_eq_append_getElem h, List.map_append]; rfl
theorem getD_at {α : Type} {l : List α} {i : Nat} (h : i < l.length) (d : α) : l.getD i d = l[i] := by simp [List.getD, h]
theorem bs_nil {B : Nat → Option Blk} {xs : List Int} {n m : Nat} (h : n = m) (hx : xs = [] := by rfl) : BSub B (some (.row 1 (List.replicate m [PV.bool false]))) (.row 1 (uB xs n)) := by
 subst h; subst hx; rw [uB_nil]; exact rfl
structure Cv.rg (c : Cv) : Prop where
 sh : ∀ m ∈ c.moves, -9223372036854775808 ≤ m.shift ∧ m.shift ≤ 9223372036854775807
attribute [local irreducible] PSub Wp PSpec Le Need Both
theorem twoWay_spec (s : Src) (hs : s.sz) (c : Cv) (hc : c.moves.length ≤ 140737488355328) (hg : c.rg) : PSpec Try.prog 28 [.agg (encSrc s), .agg (encCv c)] (.bool (decide (twoP s c))) := by
 have qa := person_spec s hs c.a
 have qb := person_spec s hs c.b
 have no : ¬ twoP s c → decide (twoP s c) = false := fun h => decide_eq_false h
 by_cases h1 : c.a = c.b
 · rw [no fun h => h.1 h1]
   refine PSpec.of_vc (fun Γ => more8 false Γ.P Γ.fx) (fun Γ => more8_ok) Try.func28 rfl Try.call28 (by simp) ?_
   rintro ⟨P, N, w0, X, β0, fx, y, hy, pk, df⟩ rfl rfl rfl hoff rfl; change y.on = false at hoff
   repeat' ((try conv => whnf); first|(first|refine k3 ?_ ?_|refine k4 ?_ ?_) <;> intro hb <;> (try rw [lM] at hb) <;> try (exfalso; omega)|fail)
   exact PSub.refl _
 by_cases h2 : wholeAt s c.a = true
 case neg =>
   rw [no fun h => h2 h.2.1]
   rw [Bool.not_eq_true] at h2
   rw [h2] at qa
   refine PSpec.of_vc (fun Γ => more8 false Γ.P Γ.fx) (fun Γ => more8_ok) Try.func28 rfl Try.call28 (by simp) ?_
   rintro ⟨P, N, w0, X, β0, fx, y, hy, pk, df⟩ rfl rfl rfl hoff rfl; change y.on = false at hoff
   repeat' ((try conv => whnf); first|(first|refine k3 ?_ ?_|refine k4 ?_ ?_) <;> intro hb <;> (try rw [lM] at hb) <;> try (exfalso; omega)|fail)
   refine .inl ⟨_, qa, ?_⟩
   skip
   exact PSub.refl _
 rw [h2] at qa
 by_cases h3 : wholeAt s c.b = true
 case neg =>
   rw [no fun h => h3 h.2.2.1]
   rw [Bool.not_eq_true] at h3
   rw [h3] at qb
   refine PSpec.of_vc (fun Γ => more8 false Γ.P Γ.fx) (fun Γ => more8_ok) Try.func28 rfl Try.call28 (by simp) ?_
   rintro ⟨P, N, w0, X, β0, fx, y, hy, pk, df⟩ rfl rfl rfl hoff rfl; change y.on = false at hoff
   repeat' ((try conv => whnf); first|(first|refine k3 ?_ ?_|refine k4 ?_ ?_) <;> intro hb <;> (try rw [lM] at hb) <;> try (exfalso; omega)|fail)
   refine .inl ⟨_, qa, ?_⟩
   skip
   refine .inl ⟨_, qb, ?_⟩
   skip
   exact PSub.refl _
 rw [h3] at qb
 obtain ⟨ka, hka, ea, wa⟩ := wholeAt_in h2
 obtain ⟨kb, hkb, eb, wb⟩ := wholeAt_in h3
 have ta : c.a.toNat = ka := by omega
 have tb : c.b.toNat = kb := by omega
 have hka' : c.a.toNat < s.schemas.length := by omega
 have hkb' : c.b.toNat < s.schemas.length := by omega
 have fa : fieldsAt s c.a = s.schemas[c.a.toNat].fields := by unfold fieldsAt; rw [List.getElem?_eq_getElem hka']; rfl
 have fb : fieldsAt s c.b = s.schemas[c.b.toNat].fields := by unfold fieldsAt; rw [List.getElem?_eq_getElem hkb']; rfl
 have hla := (hs.ss _ (List.getElem_mem hka')).f
 have hlb := (hs.ss _ (List.getElem_mem hkb')).f
 have lA : (s.schemas[c.a.toNat].fields.map encFd).length = s.schemas[c.a.toNat].fields.length := List.length_map ..
 have lB : (s.schemas[c.b.toNat].fields.map encFd).length = s.schemas[c.b.toNat].fields.length := List.length_map ..
 have lM : (c.moves.map encMv).length = c.moves.length := List.length_map ..
 by_cases h4 : s.schemas[c.a.toNat].fields.length = c.moves.length + 1
 case neg =>
   rw [no fun h => h4 (by have := h.2.2.2.1; rw [fa] at this; exact this)]
   refine PSpec.of_vc (fun Γ => more8 false Γ.P Γ.fx) (fun Γ => more8_ok) Try.func28 rfl Try.call28 (by simp) ?_
   rintro ⟨P, N, w0, X, β0, fx, y, hy, pk, df⟩ rfl rfl rfl hoff rfl; change y.on = false at hoff
   repeat' ((try conv => whnf); first|(first|refine k3 ?_ ?_|refine k4 ?_ ?_) <;> intro hb <;> (try rw [lM] at hb) <;> try (exfalso; omega)|fail)
   refine .inl ⟨_, qa, ?_⟩
   skip
   refine .inl ⟨_, qb, ?_⟩
   skip
   refine Wp.draw (more := more8 true _ _) more8_det more8_ok FOK.wide rfl (by decide +kernel) (by conv => lhs; reduce) ?_
   repeat' ((try conv => whnf); first|(first|refine k3 ?_ ?_|refine k4 ?_ ?_) <;> intro hb <;> (try rw [lM] at hb) <;> try (exfalso; omega)|refine s4 nm ?_|refine s6 nm nm ?_|fail)
   exact PSub.refl _
 by_cases h5 : s.schemas[c.b.toNat].fields.length = c.moves.length + 1
 case neg =>
   rw [no fun h => h5 (by have := h.2.2.2.2.1; rw [fb] at this; exact this)]
   refine PSpec.of_vc (fun Γ => more8 false Γ.P Γ.fx) (fun Γ => more8_ok) Try.func28 rfl Try.call28 (by simp) ?_
   rintro ⟨P, N, w0, X, β0, fx, y, hy, pk, df⟩ rfl rfl rfl hoff rfl; change y.on = false at hoff
   repeat' ((try conv => whnf); first|(first|refine k3 ?_ ?_|refine k4 ?_ ?_) <;> intro hb <;> (try rw [lM] at hb) <;> try (exfalso; omega)|fail)
   refine .inl ⟨_, qa, ?_⟩
   skip
   refine .inl ⟨_, qb, ?_⟩
   skip
   refine Wp.draw (more := more8 true _ _) more8_det more8_ok FOK.wide rfl (by decide +kernel) (by conv => lhs; reduce) ?_
   repeat' ((try conv => whnf); first|(first|refine k3 ?_ ?_|refine k4 ?_ ?_) <;> intro hb <;> (try rw [lM] at hb) <;> try (exfalso; omega)|refine s4 nm ?_|refine s6 nm nm ?_|fail)
   exact PSub.refl _
 refine PSpec.of_vc (fun Γ => more8 false Γ.P Γ.fx) (fun Γ => more8_ok) Try.func28 rfl Try.call28 (by simp) ?_
 rintro ⟨P, N, w0, X, β0, fx, y, hy, pk, df⟩ rfl rfl rfl hoff rfl; change y.on = false at hoff
 repeat' ((try conv => whnf); first|(first|refine k3 ?_ ?_|refine k4 ?_ ?_) <;> intro hb <;> (try rw [lM] at hb) <;> try (exfalso; omega)|fail)
 refine .inl ⟨_, qa, ?_⟩
 skip
 refine .inl ⟨_, qb, ?_⟩
 skip
 refine Wp.draw (more := more8 true _ _) more8_det more8_ok FOK.wide rfl (by decide +kernel) (by conv => lhs; reduce) ?_
 repeat' ((try conv => whnf); first|(first|refine k3 ?_ ?_|refine k4 ?_ ?_) <;> intro hb <;> (try rw [lM] at hb) <;> try (exfalso; omega)|refine s4 nm ?_|refine s6 nm nm ?_|fail)
 refine Wp.draw (more := more8 true _ _) more8_det more8_ok FOK.wide rfl (by decide +kernel) (by conv => lhs; reduce) ?_
 repeat' ((try conv => whnf); first|refine aq bd ?_|fail)
 refine Wp.loop (fun i : Nat => ⟨[(5, .pure (.sl 11 (s.schemas[c.a.toNat].fields.map encFd))), (6, .pure (.sl 11 (s.schemas[c.b.toNat].fields.map encFd))), (7, .lsl 62 0 s.schemas[c.a.toNat].fields.length), (8, .lsl 65 0 s.schemas[c.b.toNat].fields.length), (67, .pure (.sl 5 (c.moves.map encMv))), (68, .int c.moves.length), (69, .int i)], [(62, some (.row 1 (uB ((c.moves.take i).map (·.a)) s.schemas[c.a.toNat].fields.length))), (65, some (.row 1 (uB ((c.moves.take i).map (·.b)) s.schemas[c.b.toNat].fields.length)))], [62, 65]⟩) (fun i => i ≤ c.moves.length ∧ ∀ j, j < i → mvP (fieldsAt s c.a) (fieldsAt s c.b) c.moves j) (fun i => c.moves.length - i) 0 (Le.of ?_ ?_ rfl rfl rfl) ⟨by omega, fun j h => by omega⟩ ?_
 · (repeat' (first|exact trivial|refine aq ?_ ?_|exact oq|exact l1 bd|exact SubA.lsl ls|fail))
 · (repeat' (first|exact trivial|refine aq ?_ ?_|fail))
   · exact bs_nil lA.symm
   · exact bs_nil lB.symm
 intro i ⟨hi, ho⟩
 by_cases hi2 : i < c.moves.length
 · have gm := getD_at hi2 zeroMv
   have hsh := hg.sh _ (List.getElem_mem hi2)
   have mno : ¬ mvP (fieldsAt s c.a) (fieldsAt s c.b) c.moves i → ¬ twoP s c := fun h h' => h (h'.2.2.2.2.2 i hi2)
   by_cases hin : 1 ≤ c.moves[i].a ∧ c.moves[i].a < s.schemas[c.a.toNat].fields.length ∧ 1 ≤ c.moves[i].b ∧ c.moves[i].b < s.schemas[c.b.toNat].fields.length
   case neg =>
     rw [no (mno fun h => hin (by have := h.1; rw [gm, fa, fb] at this; exact this))]
     by_cases z1 : c.moves[i].a < 1
     · refine code_sound (more := more8 false _ _) more8_ok FOK.wide _ ?_
       repeat' ((try conv => whnf); first|(first|refine k3 ?_ ?_|refine k4 ?_ ?_) <;> intro hb <;> (try rw [lM] at hb) <;> try (exfalso; omega)|refine aq rfl ?_|refine s5 nm nm ?_|fail)
       exact PSub.refl _
     by_cases z2 : (s.schemas[c.a.toNat].fields.length : Int) ≤ c.moves[i].a
     · refine code_sound (more := more8 false _ _) more8_ok FOK.wide _ ?_
       repeat' ((try conv => whnf); first|(first|refine k3 ?_ ?_|refine k4 ?_ ?_) <;> intro hb <;> (try rw [lM] at hb) <;> try (exfalso; omega)|refine aq rfl ?_|refine s5 nm nm ?_|fail)
       exact PSub.refl _
     by_cases z3 : c.moves[i].b < 1
     · refine code_sound (more := more8 false _ _) more8_ok FOK.wide _ ?_
       repeat' ((try conv => whnf); first|(first|refine k3 ?_ ?_|refine k4 ?_ ?_) <;> intro hb <;> (try rw [lM] at hb) <;> try (exfalso; omega)|refine aq rfl ?_|refine s5 nm nm ?_|fail)
       exact PSub.refl _
     have z4 : (s.schemas[c.b.toNat].fields.length : Int) ≤ c.moves[i].b := by omega
     refine code_sound (more := more8 false _ _) more8_ok FOK.wide _ ?_
     repeat' ((try conv => whnf); first|(first|refine k3 ?_ ?_|refine k4 ?_ ?_) <;> intro hb <;> (try rw [lM] at hb) <;> try (exfalso; omega)|refine aq rfl ?_|refine s5 nm nm ?_|fail)
     exact PSub.refl _
   obtain ⟨i1, i2, i3, i4⟩ := hin
   have hpa : c.moves[i].a.toNat < s.schemas[c.a.toNat].fields.length := by omega
   have hpb : c.moves[i].b.toNat < s.schemas[c.b.toNat].fields.length := by omega
   have ua := uB_at ((c.moves.take i).map (·.a)) _ _ hpa
   have ub := uB_at ((c.moves.take i).map (·.b)) _ _ hpb
   have ca : ((c.moves[i].a.toNat : Nat) : Int) = c.moves[i].a := by omega
   have cb : ((c.moves[i].b.toNat : Nat) : Int) = c.moves[i].b := by omega
   rw [ca] at ua
   rw [cb] at ub
   have sA : uB ((c.moves.take (i + 1)).map (·.a)) s.schemas[c.a.toNat].fields.length = (uB ((c.moves.take i).map (·.a)) s.schemas[c.a.toNat].fields.length).set c.moves[i].a.toNat [PV.bool true] := by
     rw [takeA hi2, ← uB_set _ _ _ hpa, ca]
   have sB : uB ((c.moves.take (i + 1)).map (·.b)) s.schemas[c.b.toNat].fields.length = (uB ((c.moves.take i).map (·.b)) s.schemas[c.b.toNat].fields.length).set c.moves[i].b.toNat [PV.bool true] := by
     rw [takeB hi2, ← uB_set _ _ _ hpb, cb]
   have lUA := uB_len ((c.moves.take i).map (·.a)) s.schemas[c.a.toNat].fields.length
   have lUB := uB_len ((c.moves.take i).map (·.b)) s.schemas[c.b.toNat].fields.length
   by_cases hda : c.moves[i].a ∈ (c.moves.take i).map (·.a)
   · rw [no (mno fun h => h.2.1 (by rw [gm]; exact hda))]
     rw [decide_eq_true hda] at ua
     refine code_sound (more := more8 false _ _) more8_ok FOK.wide _ ?_
     repeat' ((try conv => whnf); first|(first|refine k3 ?_ ?_|refine k4 ?_ ?_) <;> intro hb <;> (try rw [lM] at hb) <;> try (exfalso; omega)|refine aq rfl ?_|refine s5 nm nm ?_|refine aq bd ?_|fail)
     refine ⟨_, _, by rw [Nat.zero_add]; exact ua, rfl, ?_⟩
     skip
     exact PSub.refl _
   rw [decide_eq_false hda] at ua
   by_cases hdb : c.moves[i].b ∈ (c.moves.take i).map (·.b)
   · rw [no (mno fun h => h.2.2.1 (by rw [gm]; exact hdb))]
     rw [decide_eq_true hdb] at ub
     refine code_sound (more := more8 false _ _) more8_ok FOK.wide _ ?_
     repeat' ((try conv => whnf); first|(first|refine k3 ?_ ?_|refine k4 ?_ ?_) <;> intro hb <;> (try rw [lM] at hb) <;> try (exfalso; omega)|refine aq rfl ?_|refine s5 nm nm ?_|refine aq bd ?_|fail)
     refine ⟨_, _, by rw [Nat.zero_add]; exact ua, rfl, ?_⟩
     repeat' ((try conv => whnf); first|refine aq bd ?_|fail)
     refine ⟨_, _, by rw [Nat.zero_add]; exact ub, rfl, ?_⟩
     skip
     exact PSub.refl _
   rw [decide_eq_false hdb] at ub
   have sa := (wholeB_small (by rw [← wholeAt_nat s c.a.toNat hka', Int.toNat_of_nonneg (by omega)]; exact h2) hpa).1
   have sb := (wholeB_small (by rw [← wholeAt_nat s c.b.toNat hkb', Int.toNat_of_nonneg (by omega)]; exact h3) hpb).1
   have qf := fits_spec _ _ c.moves[i].shift sa sb hsh.1 hsh.2
   have ga := getD_at hpa zeroFd
   have gb := getD_at hpb zeroFd
   by_cases hf : fitP s.schemas[c.a.toNat].fields[c.moves[i].a.toNat].ty s.schemas[c.b.toNat].fields[c.moves[i].b.toNat].ty c.moves[i].shift
   · rw [decide_eq_true hf] at qf
     have hmv : mvP (fieldsAt s c.a) (fieldsAt s c.b) c.moves i := by
       unfold mvP
       rw [gm, fa, fb, ga, gb]
       exact ⟨⟨i1, i2, i3, i4⟩, hda, hdb, hf⟩
     refine code_sound (more := more8 false _ _) more8_ok FOK.wide _ ?_
     repeat' ((try conv => whnf); first|(first|refine k3 ?_ ?_|refine k4 ?_ ?_) <;> intro hb <;> (try rw [lM] at hb) <;> try (exfalso; omega)|refine aq rfl ?_|refine s5 nm nm ?_|refine aq bd ?_|fail)
     refine ⟨_, _, by rw [Nat.zero_add]; exact ua, rfl, ?_⟩
     repeat' ((try conv => whnf); first|refine aq bd ?_|fail)
     refine ⟨_, _, by rw [Nat.zero_add]; exact ub, rfl, ?_⟩
     skip
     refine Wp.draw (more := more8 true _ _) more8_det more8_ok FOK.wide rfl (by decide +kernel) (by conv => lhs; reduce) ?_
     repeat' ((try conv => whnf); first|refine aq rfl ?_|refine aq bd ?_|refine .inl ⟨rfl, rfl, bd, rfl, rfl, ?_⟩|fail)
     refine Wp.draw (more := more8 true _ _) more8_det more8_ok FOK.wide rfl (by decide +kernel) (by conv => lhs; reduce) ?_
     repeat' ((try conv => whnf); first|refine s6 nm nm ?_|fail)
     refine ⟨_, qf, ?_⟩
     repeat' ((try conv => whnf); first|refine s4 nm ?_|fail)
     refine ⟨i + 1, Le.of (by (repeat' (first|exact trivial|refine aq ?_ ?_|exact oq|fail))) ?_ rfl rfl rfl, ⟨by omega, fun j hj => ?_⟩, by omega⟩
     · rw [sA, sB]
       (repeat' (first|exact trivial|refine aq ?_ ?_|exact rowEq rs|fail))
     · rcases Nat.lt_succ_iff_lt_or_eq.1 hj with hj | rfl
       · exact ho j hj
       · exact hmv
   · rw [decide_eq_false hf] at qf
     rw [no (mno fun h => hf (by have := h.2.2.2; rw [gm, fa, fb, ga, gb] at this; exact this))]
     refine code_sound (more := more8 false _ _) more8_ok FOK.wide _ ?_
     repeat' ((try conv => whnf); first|(first|refine k3 ?_ ?_|refine k4 ?_ ?_) <;> intro hb <;> (try rw [lM] at hb) <;> try (exfalso; omega)|refine aq rfl ?_|refine s5 nm nm ?_|refine aq bd ?_|fail)
     refine ⟨_, _, by rw [Nat.zero_add]; exact ua, rfl, ?_⟩
     repeat' ((try conv => whnf); first|refine aq bd ?_|fail)
     refine ⟨_, _, by rw [Nat.zero_add]; exact ub, rfl, ?_⟩
     skip
     refine Wp.draw (more := more8 true _ _) more8_det more8_ok FOK.wide rfl (by decide +kernel) (by conv => lhs; reduce) ?_
     repeat' ((try conv => whnf); first|refine aq rfl ?_|refine aq bd ?_|refine .inl ⟨rfl, rfl, bd, rfl, rfl, ?_⟩|fail)
     refine Wp.draw (more := more8 true _ _) more8_det more8_ok FOK.wide rfl (by decide +kernel) (by conv => lhs; reduce) ?_
     repeat' ((try conv => whnf); first|refine s6 nm nm ?_|fail)
     refine ⟨_, qf, ?_⟩
     skip
     exact PSub.refl _
 · have e : i = c.moves.length := by omega
   subst e
   rw [decide_eq_true (show twoP s c from ⟨h1, h2, h3, by rw [fa]; exact h4, by rw [fb]; exact h5, ho⟩)]
   refine code_sound (more := more8 false _ _) more8_ok FOK.wide _ ?_
   repeat' ((try conv => whnf); first|(first|refine k3 ?_ ?_|refine k4 ?_ ?_) <;> intro hb <;> (try rw [lM] at hb) <;> try (exfalso; omega)|fail)
   exact PSub.refl _
end Go.Proofs.Ytihbkbioafdhjaa
/- Versions: the reference's conversions that are two-way; Check. Conditions: none. -/
namespace Go.Proofs.Ytihbkbioafdhjaa
open Go.Avc
theorem wholeAt_range {s : Src} {a : Int} (h : wholeAt s a = true) : 0 ≤ a ∧ a < s.schemas.length := by
 obtain ⟨k, hk, rfl, _⟩ := wholeAt_in h
 omega
theorem notA {l : List Mv} {i k : Nat} {x : Int} (hi : i < l.length) (hk : k < i) (hx : l[k].a = x) : x ∈ (l.take i).map (·.a) := by
 rw [List.mem_map]
 refine ⟨l[k], ?_, hx⟩
 rw [List.mem_take_iff_getElem]
 exact ⟨k, by omega, rfl⟩
theorem notB {l : List Mv} {i k : Nat} {x : Int} (hi : i < l.length) (hk : k < i) (hx : l[k].b = x) : x ∈ (l.take i).map (·.b) := by
 rw [List.mem_map]
 refine ⟨l[k], ?_, hx⟩
 rw [List.mem_take_iff_getElem]
 exact ⟨k, by omega, rfl⟩
theorem noA {l : List Mv} {i : Nat} {x : Int} (hi : i < l.length) (h : ∀ k (hk : k < i), l[k].a ≠ x) : x ∉ (l.take i).map (·.a) := by
 intro hx
 rw [List.mem_map] at hx
 obtain ⟨m, hm, rfl⟩ := hx
 rw [List.mem_take_iff_getElem] at hm
 obtain ⟨k, hk, rfl⟩ := hm
 exact h k (by omega) rfl
theorem noB {l : List Mv} {i : Nat} {x : Int} (hi : i < l.length) (h : ∀ k (hk : k < i), l[k].b ≠ x) : x ∉ (l.take i).map (·.b) := by
 intro hx
 rw [List.mem_map] at hx
 obtain ⟨m, hm, rfl⟩ := hx
 rw [List.mem_take_iff_getElem] at hm
 obtain ⟨k, hk, rfl⟩ := hm
 exact h k (by omega) rfl
attribute [local irreducible] PSub Wp PSpec Le Need Both
theorem rtwoWay_spec (s : Src) (hs : s.sz) (c : Cv) (hc : c.moves.length ≤ 140737488355328) : PSpec Try.prog 29 [.agg (encSrc s), .agg (encCv c)] (.bool (decide (twoP s c))) := by
 have hls := hs.ls
 have lS : (s.schemas.map encSc).length = s.schemas.length := List.length_map ..
 have no : ¬ twoP s c → decide (twoP s c) = false := fun h => decide_eq_false h
 by_cases h0 : c.a < 0 ∨ c.b < 0 ∨ (s.schemas.length : Int) ≤ c.a ∨ (s.schemas.length : Int) ≤ c.b ∨ c.a = c.b
 · rw [no fun h => by have := wholeAt_range h.2.1; have := wholeAt_range h.2.2.1; have := h.1; omega]
   by_cases z1 : c.a < 0
   · refine PSpec.of_vc (fun Γ => more8 false Γ.P Γ.fx) (fun Γ => more8_ok) Try.func29 rfl Try.call29 (by simp) ?_
     rintro ⟨P, N, w0, X, β0, fx, y, hy, pk, df⟩ rfl rfl rfl hoff rfl; change y.on = false at hoff
     repeat' ((try conv => whnf); first|(first|refine k3 ?_ ?_|refine k4 ?_ ?_) <;> intro hb <;> (try rw [lM] at hb) <;> try (exfalso; omega)|fail)
     exact PSub.refl _
   by_cases z2 : c.b < 0
   · refine PSpec.of_vc (fun Γ => more8 false Γ.P Γ.fx) (fun Γ => more8_ok) Try.func29 rfl Try.call29 (by simp) ?_
     rintro ⟨P, N, w0, X, β0, fx, y, hy, pk, df⟩ rfl rfl rfl hoff rfl; change y.on = false at hoff
     repeat' ((try conv => whnf); first|(first|refine k3 ?_ ?_|refine k4 ?_ ?_) <;> intro hb <;> (try rw [lM] at hb) <;> try (exfalso; omega)|fail)
     exact PSub.refl _
   by_cases z3 : (s.schemas.length : Int) ≤ c.a
   · refine PSpec.of_vc (fun Γ => more8 false Γ.P Γ.fx) (fun Γ => more8_ok) Try.func29 rfl Try.call29 (by simp) ?_
     rintro ⟨P, N, w0, X, β0, fx, y, hy, pk, df⟩ rfl rfl rfl hoff rfl; change y.on = false at hoff
     repeat' ((try conv => whnf); first|(first|refine k3 ?_ ?_|refine k4 ?_ ?_) <;> intro hb <;> (try rw [lM] at hb) <;> try (exfalso; omega)|fail)
     exact PSub.refl _
   by_cases z4 : (s.schemas.length : Int) ≤ c.b
   · refine PSpec.of_vc (fun Γ => more8 false Γ.P Γ.fx) (fun Γ => more8_ok) Try.func29 rfl Try.call29 (by simp) ?_
     rintro ⟨P, N, w0, X, β0, fx, y, hy, pk, df⟩ rfl rfl rfl hoff rfl; change y.on = false at hoff
     repeat' ((try conv => whnf); first|(first|refine k3 ?_ ?_|refine k4 ?_ ?_) <;> intro hb <;> (try rw [lM] at hb) <;> try (exfalso; omega)|fail)
     exact PSub.refl _
   have z5 : c.a = c.b := by omega
   refine PSpec.of_vc (fun Γ => more8 false Γ.P Γ.fx) (fun Γ => more8_ok) Try.func29 rfl Try.call29 (by simp) ?_
   rintro ⟨P, N, w0, X, β0, fx, y, hy, pk, df⟩ rfl rfl rfl hoff rfl; change y.on = false at hoff
   repeat' ((try conv => whnf); first|(first|refine k3 ?_ ?_|refine k4 ?_ ?_) <;> intro hb <;> (try rw [lM] at hb) <;> try (exfalso; omega)|fail)
   exact PSub.refl _
 have hka' : c.a.toNat < s.schemas.length := by omega
 have hkb' : c.b.toNat < s.schemas.length := by omega
 have h1 : ¬ c.a = c.b := by omega
 have fa : fieldsAt s c.a = s.schemas[c.a.toNat].fields := by unfold fieldsAt; rw [List.getElem?_eq_getElem hka']; rfl
 have fb : fieldsAt s c.b = s.schemas[c.b.toNat].fields := by unfold fieldsAt; rw [List.getElem?_eq_getElem hkb']; rfl
 have hA := hs.ss _ (List.getElem_mem hka')
 have hB := hs.ss _ (List.getElem_mem hkb')
 have hla := hA.f
 have hlb := hB.f
 have lA : (s.schemas[c.a.toNat].fields.map encFd).length = s.schemas[c.a.toNat].fields.length := List.length_map ..
 have lB : (s.schemas[c.b.toNat].fields.map encFd).length = s.schemas[c.b.toNat].fields.length := List.length_map ..
 have lM : (c.moves.map encMv).length = c.moves.length := List.length_map ..
 have qa := whole_spec s s.schemas[c.a.toNat].fields hla hA.n
 have qb := whole_spec s s.schemas[c.b.toNat].fields hlb hB.n
 have ea : wholeB s.units.length s.schemas[c.a.toNat].fields = wholeAt s c.a := by rw [← wholeAt_nat s c.a.toNat hka', Int.toNat_of_nonneg (by omega)]
 have eb : wholeB s.units.length s.schemas[c.b.toNat].fields = wholeAt s c.b := by rw [← wholeAt_nat s c.b.toNat hkb', Int.toNat_of_nonneg (by omega)]
 rw [ea] at qa
 rw [eb] at qb
 by_cases h2 : wholeAt s c.a = true
 case neg =>
   rw [no fun h => h2 h.2.1]
   rw [Bool.not_eq_true] at h2
   rw [h2] at qa
   refine PSpec.of_vc (fun Γ => more8 false Γ.P Γ.fx) (fun Γ => more8_ok) Try.func29 rfl Try.call29 (by simp) ?_
   rintro ⟨P, N, w0, X, β0, fx, y, hy, pk, df⟩ rfl rfl rfl hoff rfl; change y.on = false at hoff
   repeat' ((try conv => whnf); first|(first|refine k3 ?_ ?_|refine k4 ?_ ?_) <;> intro hb <;> (try rw [lM] at hb) <;> try (exfalso; omega)|refine s6 nm nm ?_|fail)
   refine .inl ⟨_, qa, ?_⟩
   skip
   exact PSub.refl _
 by_cases h3 : wholeAt s c.b = true
 case neg =>
   rw [no fun h => h3 h.2.2.1]
   rw [Bool.not_eq_true] at h3
   rw [h2] at qa
   rw [h3] at qb
   refine PSpec.of_vc (fun Γ => more8 false Γ.P Γ.fx) (fun Γ => more8_ok) Try.func29 rfl Try.call29 (by simp) ?_
   rintro ⟨P, N, w0, X, β0, fx, y, hy, pk, df⟩ rfl rfl rfl hoff rfl; change y.on = false at hoff
   repeat' ((try conv => whnf); first|(first|refine k3 ?_ ?_|refine k4 ?_ ?_) <;> intro hb <;> (try rw [lM] at hb) <;> try (exfalso; omega)|refine s6 nm nm ?_|fail)
   refine .inl ⟨_, qa, ?_⟩
   skip
   refine .inl ⟨_, qb, ?_⟩
   skip
   exact PSub.refl _
 have wa := ea.trans h2
 have wb := eb.trans h3
 rw [h2] at qa
 rw [h3] at qb
 by_cases h4 : s.schemas[c.a.toNat].fields.length = s.schemas[c.b.toNat].fields.length
 case neg =>
   rw [no fun h => h4 (by have g1 := h.2.2.2.1; have g2 := h.2.2.2.2.1; rw [fa] at g1; rw [fb] at g2; omega)]
   refine PSpec.of_vc (fun Γ => more8 false Γ.P Γ.fx) (fun Γ => more8_ok) Try.func29 rfl Try.call29 (by simp) ?_
   rintro ⟨P, N, w0, X, β0, fx, y, hy, pk, df⟩ rfl rfl rfl hoff rfl; change y.on = false at hoff
   repeat' ((try conv => whnf); first|(first|refine k3 ?_ ?_|refine k4 ?_ ?_) <;> intro hb <;> (try rw [lM] at hb) <;> try (exfalso; omega)|refine s6 nm nm ?_|fail)
   refine .inl ⟨_, qa, ?_⟩
   skip
   refine .inl ⟨_, qb, ?_⟩
   repeat' ((try conv => whnf); first|(first|refine k3 ?_ ?_|refine k4 ?_ ?_) <;> intro hb <;> (try rw [lM] at hb) <;> try (exfalso; omega)|fail)
   exact PSub.refl _
 by_cases h5 : s.schemas[c.a.toNat].fields.length = c.moves.length + 1
 case neg =>
   rw [no fun h => h5 (by have := h.2.2.2.1; rw [fa] at this; exact this)]
   refine PSpec.of_vc (fun Γ => more8 false Γ.P Γ.fx) (fun Γ => more8_ok) Try.func29 rfl Try.call29 (by simp) ?_
   rintro ⟨P, N, w0, X, β0, fx, y, hy, pk, df⟩ rfl rfl rfl hoff rfl; change y.on = false at hoff
   repeat' ((try conv => whnf); first|(first|refine k3 ?_ ?_|refine k4 ?_ ?_) <;> intro hb <;> (try rw [lM] at hb) <;> try (exfalso; omega)|refine s6 nm nm ?_|fail)
   refine .inl ⟨_, qa, ?_⟩
   skip
   refine .inl ⟨_, qb, ?_⟩
   repeat' ((try conv => whnf); first|(first|refine k3 ?_ ?_|refine k4 ?_ ?_) <;> intro hb <;> (try rw [lM] at hb) <;> try (exfalso; omega)|refine s4 nm ?_|fail)
   exact PSub.refl _
 refine PSpec.of_vc (fun Γ => more8 false Γ.P Γ.fx) (fun Γ => more8_ok) Try.func29 rfl Try.call29 (by simp) ?_
 rintro ⟨P, N, w0, X, β0, fx, y, hy, pk, df⟩ rfl rfl rfl hoff rfl; change y.on = false at hoff
 repeat' ((try conv => whnf); first|(first|refine k3 ?_ ?_|refine k4 ?_ ?_) <;> intro hb <;> (try rw [lM] at hb) <;> try (exfalso; omega)|refine s6 nm nm ?_|fail)
 refine .inl ⟨_, qa, ?_⟩
 skip
 refine .inl ⟨_, qb, ?_⟩
 repeat' ((try conv => whnf); first|(first|refine k3 ?_ ?_|refine k4 ?_ ?_) <;> intro hb <;> (try rw [lM] at hb) <;> try (exfalso; omega)|refine s4 nm ?_|fail)
 refine Wp.loop (fun i : Nat => ⟨[(3, .loc 3 0 0), (5, .pure (.sl 11 (s.schemas[c.a.toNat].fields.map encFd))), (6, .pure (.sl 11 (s.schemas[c.b.toNat].fields.map encFd))), (7, .int i)], [(3, some (.box (pures (encCv c))))], [3]⟩) (fun i => i ≤ c.moves.length ∧ ∀ j, j < i → mvP (fieldsAt s c.a) (fieldsAt s c.b) c.moves j) (fun i => c.moves.length - i) 0 (Le.of ?_ ?_ rfl rfl rfl) ⟨by omega, fun j h => by omega⟩ ?_
 · (repeat' (first|exact trivial|refine aq ?_ ?_|exact oq|fail))
 · (repeat' (first|exact trivial|refine aq ?_ ?_|refine Exists.intro _ (aq rfl ?_)|exact oq|fail))
 intro i ⟨hi, ho⟩
 by_cases hi2 : i < c.moves.length
 · have gm := getD_at hi2 zeroMv
   have mno : ¬ mvP (fieldsAt s c.a) (fieldsAt s c.b) c.moves i → ¬ twoP s c := fun h h' => h (h'.2.2.2.2.2 i hi2)
   by_cases hin : 1 ≤ c.moves[i].a ∧ c.moves[i].a < s.schemas[c.a.toNat].fields.length ∧ 1 ≤ c.moves[i].b ∧ c.moves[i].b < s.schemas[c.b.toNat].fields.length
   case neg =>
     rw [no (mno fun h => hin (by have := h.1; rw [gm, fa, fb] at this; exact this))]
     by_cases z1 : c.moves[i].a < 1
     · refine code_sound (more := more8 false _ _) more8_ok FOK.wide _ ?_
       repeat' ((try conv => whnf); first|(first|refine k3 ?_ ?_|refine k4 ?_ ?_) <;> intro hb <;> (try rw [lM] at hb) <;> try (exfalso; omega)|refine aq rfl ?_|refine s5 nm nm ?_|fail)
       refine Wp.draw (more := more8 true _ _) more8_det more8_ok FOK.wide rfl (by decide +kernel) (by conv => lhs; reduce) ?_
       repeat' ((try conv => whnf); first|(first|refine k3 ?_ ?_|refine k4 ?_ ?_) <;> intro hb <;> (try rw [lM] at hb) <;> try (exfalso; omega)|fail)
       exact PSub.refl _
     by_cases z2 : (s.schemas[c.a.toNat].fields.length : Int) ≤ c.moves[i].a
     · refine code_sound (more := more8 false _ _) more8_ok FOK.wide _ ?_
       repeat' ((try conv => whnf); first|(first|refine k3 ?_ ?_|refine k4 ?_ ?_) <;> intro hb <;> (try rw [lM] at hb) <;> try (exfalso; omega)|refine aq rfl ?_|refine s5 nm nm ?_|fail)
       refine Wp.draw (more := more8 true _ _) more8_det more8_ok FOK.wide rfl (by decide +kernel) (by conv => lhs; reduce) ?_
       repeat' ((try conv => whnf); first|(first|refine k3 ?_ ?_|refine k4 ?_ ?_) <;> intro hb <;> (try rw [lM] at hb) <;> try (exfalso; omega)|fail)
       exact PSub.refl _
     by_cases z3 : c.moves[i].b < 1
     · refine code_sound (more := more8 false _ _) more8_ok FOK.wide _ ?_
       repeat' ((try conv => whnf); first|(first|refine k3 ?_ ?_|refine k4 ?_ ?_) <;> intro hb <;> (try rw [lM] at hb) <;> try (exfalso; omega)|refine aq rfl ?_|refine s5 nm nm ?_|fail)
       refine Wp.draw (more := more8 true _ _) more8_det more8_ok FOK.wide rfl (by decide +kernel) (by conv => lhs; reduce) ?_
       repeat' ((try conv => whnf); first|(first|refine k3 ?_ ?_|refine k4 ?_ ?_) <;> intro hb <;> (try rw [lM] at hb) <;> try (exfalso; omega)|fail)
       exact PSub.refl _
     have z4 : (s.schemas[c.b.toNat].fields.length : Int) ≤ c.moves[i].b := by omega
     refine code_sound (more := more8 false _ _) more8_ok FOK.wide _ ?_
     repeat' ((try conv => whnf); first|(first|refine k3 ?_ ?_|refine k4 ?_ ?_) <;> intro hb <;> (try rw [lM] at hb) <;> try (exfalso; omega)|refine aq rfl ?_|refine s5 nm nm ?_|fail)
     refine Wp.draw (more := more8 true _ _) more8_det more8_ok FOK.wide rfl (by decide +kernel) (by conv => lhs; reduce) ?_
     repeat' ((try conv => whnf); first|(first|refine k3 ?_ ?_|refine k4 ?_ ?_) <;> intro hb <;> (try rw [lM] at hb) <;> try (exfalso; omega)|fail)
     exact PSub.refl _
   obtain ⟨i1, i2, i3, i4⟩ := hin
   have hpa : c.moves[i].a.toNat < s.schemas[c.a.toNat].fields.length := by omega
   have hpb : c.moves[i].b.toNat < s.schemas[c.b.toNat].fields.length := by omega
   have ga := getD_at hpa zeroFd
   have gb := getD_at hpb zeroFd
   have sa := (wholeB_small wa hpa).1
   have sb := (wholeB_small wb hpb).1
   have qf := move_spec _ _ c.moves[i].shift sa sb
   by_cases hf : fitP s.schemas[c.a.toNat].fields[c.moves[i].a.toNat].ty s.schemas[c.b.toNat].fields[c.moves[i].b.toNat].ty c.moves[i].shift
   case neg =>
     rw [decide_eq_false hf] at qf
     rw [no (mno fun h => hf (by have := h.2.2.2; rw [gm, fa, fb, ga, gb] at this; exact this))]
     refine code_sound (more := more8 false _ _) more8_ok FOK.wide _ ?_
     repeat' ((try conv => whnf); first|(first|refine k3 ?_ ?_|refine k4 ?_ ?_) <;> intro hb <;> (try rw [lM] at hb) <;> try (exfalso; omega)|refine aq rfl ?_|refine s5 nm nm ?_|fail)
     refine Wp.draw (more := more8 true _ _) more8_det more8_ok FOK.wide rfl (by decide +kernel) (by conv => lhs; reduce) ?_
     repeat' ((try conv => whnf); first|(first|refine k3 ?_ ?_|refine k4 ?_ ?_) <;> intro hb <;> (try rw [lM] at hb) <;> try (exfalso; omega)|refine s6 nm nm ?_|fail)
     refine ⟨_, qf, ?_⟩
     skip
     exact PSub.refl _
   rw [decide_eq_true hf] at qf
   refine code_sound (more := more8 false _ _) more8_ok FOK.wide _ ?_
   repeat' ((try conv => whnf); first|(first|refine k3 ?_ ?_|refine k4 ?_ ?_) <;> intro hb <;> (try rw [lM] at hb) <;> try (exfalso; omega)|refine aq rfl ?_|refine s5 nm nm ?_|fail)
   refine Wp.draw (more := more8 true _ _) more8_det more8_ok FOK.wide rfl (by decide +kernel) (by conv => lhs; reduce) ?_
   repeat' ((try conv => whnf); first|(first|refine k3 ?_ ?_|refine k4 ?_ ?_) <;> intro hb <;> (try rw [lM] at hb) <;> try (exfalso; omega)|refine s6 nm nm ?_|fail)
   refine ⟨_, qf, ?_⟩
   skip
   refine Wp.loop (fun k : Nat => ⟨[(3, .loc 3 0 0), (5, .pure (.sl 11 (s.schemas[c.a.toNat].fields.map encFd))), (6, .pure (.sl 11 (s.schemas[c.b.toNat].fields.map encFd))), (7, .int i), (8, .loc 8 0 0), (9, .int k)], [(3, some (.box (pures (encCv c)))), (8, some (.box (pures (encMv c.moves[i]))))], [3, 8]⟩) (fun k => k ≤ i ∧ ∀ j (_ : j < k) (hjl : j < c.moves.length), (c.moves[j]'hjl).a ≠ c.moves[i].a ∧ (c.moves[j]'hjl).b ≠ c.moves[i].b) (fun k => i - k) 0 (Le.of ?_ ?_ rfl rfl rfl) ⟨by omega, fun j h => by omega⟩ ?_
   · (repeat' (first|exact trivial|refine aq ?_ ?_|exact oq|fail))
   · (repeat' (first|exact trivial|refine aq ?_ ?_|refine Exists.intro _ (aq rfl ?_)|exact oq|fail))
   intro k ⟨hk, hok⟩
   by_cases hk2 : k < i
   · have hkl : k < c.moves.length := by omega
     by_cases za : c.moves[k].a = c.moves[i].a
     · rw [no (mno fun h => h.2.1 (by rw [gm]; exact notA hi2 hk2 za))]
       refine code_sound (more := more8 false _ _) more8_ok FOK.wide _ ?_
       repeat' ((try conv => whnf); first|(first|refine k3 ?_ ?_|refine k4 ?_ ?_) <;> intro hb <;> (try rw [lM] at hb) <;> try (exfalso; omega)|fail)
       refine Wp.draw (more := more8 true _ _) more8_det more8_ok FOK.wide rfl (by decide +kernel) (by conv => lhs; reduce) ?_
       repeat' ((try conv => whnf); first|(first|refine k3 ?_ ?_|refine k4 ?_ ?_) <;> intro hb <;> (try rw [lM] at hb) <;> try (exfalso; omega)|refine s5 nm nm ?_|fail)
       exact PSub.refl _
     by_cases zb : c.moves[k].b = c.moves[i].b
     · rw [no (mno fun h => h.2.2.1 (by rw [gm]; exact notB hi2 hk2 zb))]
       refine code_sound (more := more8 false _ _) more8_ok FOK.wide _ ?_
       repeat' ((try conv => whnf); first|(first|refine k3 ?_ ?_|refine k4 ?_ ?_) <;> intro hb <;> (try rw [lM] at hb) <;> try (exfalso; omega)|fail)
       refine Wp.draw (more := more8 true _ _) more8_det more8_ok FOK.wide rfl (by decide +kernel) (by conv => lhs; reduce) ?_
       repeat' ((try conv => whnf); first|(first|refine k3 ?_ ?_|refine k4 ?_ ?_) <;> intro hb <;> (try rw [lM] at hb) <;> try (exfalso; omega)|refine s5 nm nm ?_|fail)
       exact PSub.refl _
     refine code_sound (more := more8 false _ _) more8_ok FOK.wide _ ?_
     repeat' ((try conv => whnf); first|(first|refine k3 ?_ ?_|refine k4 ?_ ?_) <;> intro hb <;> (try rw [lM] at hb) <;> try (exfalso; omega)|fail)
     refine Wp.draw (more := more8 true _ _) more8_det more8_ok FOK.wide rfl (by decide +kernel) (by conv => lhs; reduce) ?_
     repeat' ((try conv => whnf); first|(first|refine k3 ?_ ?_|refine k4 ?_ ?_) <;> intro hb <;> (try rw [lM] at hb) <;> try (exfalso; omega)|refine s4 nm ?_|refine s5 nm nm ?_|fail)
     refine ⟨k + 1, Le.of (by (repeat' (first|exact trivial|refine aq ?_ ?_|exact oq|fail))) (by (repeat' (first|exact trivial|refine aq ?_ ?_|refine Exists.intro _ (aq rfl ?_)|exact oq|fail))) rfl rfl rfl, ⟨by omega, fun j hj hjl => ?_⟩, by omega⟩
     rcases Nat.lt_succ_iff_lt_or_eq.1 hj with hj | rfl
     · exact hok j hj hjl
     · exact ⟨za, zb⟩
   · have e : k = i := by omega
     subst e
     have hmv : mvP (fieldsAt s c.a) (fieldsAt s c.b) c.moves k := by
       unfold mvP
       rw [gm, fa, fb, ga, gb]
       exact ⟨⟨i1, i2, i3, i4⟩, noA hi2 fun j hj => (hok j hj (by omega)).1, noB hi2 fun j hj => (hok j hj (by omega)).2, hf⟩
     refine code_sound (more := more8 false _ _) more8_ok FOK.wide _ ?_
     repeat' ((try conv => whnf); first|(first|refine k3 ?_ ?_|refine k4 ?_ ?_) <;> intro hb <;> (try rw [lM] at hb) <;> try (exfalso; omega)|refine s4 nm ?_|fail)
     refine ⟨k + 1, Le.of (by (repeat' (first|exact trivial|refine aq ?_ ?_|exact oq|fail))) (by (repeat' (first|exact trivial|refine aq ?_ ?_|refine Exists.intro _ (aq rfl ?_)|exact oq|fail))) rfl rfl rfl, ⟨by omega, fun j hj => ?_⟩, by omega⟩
     rcases Nat.lt_succ_iff_lt_or_eq.1 hj with hj | rfl
     · exact ho j hj
     · exact hmv
 · have e : i = c.moves.length := by omega
   subst e
   rw [decide_eq_true (show twoP s c from ⟨h1, h2, h3, by rw [fa]; exact h5, by rw [fb]; omega, ho⟩)]
   refine code_sound (more := more8 false _ _) more8_ok FOK.wide _ ?_
   repeat' ((try conv => whnf); first|(first|refine k3 ?_ ?_|refine k4 ?_ ?_) <;> intro hb <;> (try rw [lM] at hb) <;> try (exfalso; omega)|fail)
   exact PSub.refl _
end Go.Proofs.Ytihbkbioafdhjaa
/- Versions: Check. Conditions: none. -/
namespace Go.Proofs.Ytihbkbioafdhjaa
open Go.Avc
def chkT (s : Src) (i : Nat) : Prop := ∀ j (h : j < s.converts.length), j < i → twoP s s.converts[j]
def allTwo (s : Src) : Bool := s.converts.all fun c => decide (twoP s c)
def chkE (s : Src) : Int := if allTwo s = true then 0 else 150
theorem allTwo_no {s : Src} {i : Nat} (h : i < s.converts.length) (hn : ¬ twoP s s.converts[i]) : allTwo s = false := List.all_eq_false.2 ⟨s.converts[i], List.getElem_mem h, by simp [hn]⟩
theorem allTwo_yes {s : Src} (h : chkT s s.converts.length) : allTwo s = true := List.all_eq_true.2 fun c hc => by
 obtain ⟨i, hi, rfl⟩ := List.getElem_of_mem hc
 exact decide_eq_true (h i hi hi)
def Src.rg (s : Src) : Prop := ∀ c ∈ s.converts, c.rg
attribute [local irreducible] PSub Wp PSpec Le Need Both
theorem check_spec (s : Src) (hs : s.sz) (hg : s.rg) : PSpec Try.prog 16 [.agg (encSrc s)] (.int (chkE s)) := by
 have hl := hs.lc
 have q : ∀ i (hi : i < s.converts.length), PSpec Try.prog 28 [.agg (encSrc s), .agg (encCv s.converts[i])] (.bool (decide (twoP s s.converts[i]))) := fun i hi => twoWay_spec s hs _ (hs.cc _ (List.getElem_mem hi)) (hg _ (List.getElem_mem hi))
 refine PSpec.of_vc (fun Γ => more8 false Γ.P Γ.fx) (fun Γ => more8_ok) Try.func16 rfl Try.call16 (by simp) ?_
 rintro ⟨P, N, w0, X, β0, fx, y, hy, pk, df⟩ rfl rfl rfl hoff rfl; change y.on = false at hoff
 skip
 refine Wp.loop (fun i : Nat => ⟨[(1, .loc 1 0 0), (6, .pure (.sl 5 (s.converts.map encCv))), (7, .int s.converts.length), (8, .int i)], [(1, some (.box (pures (encSrc s))))], [1]⟩) (fun i => i ≤ s.converts.length ∧ chkT s i) (fun i => s.converts.length - i) 0 (Le.of ?_ ?_ rfl rfl rfl) ⟨by omega, fun j _ h => by omega⟩ ?_
 · (repeat' (first|exact trivial|refine aq ?_ ?_|exact oq|exact l1 bd|fail))
 · (repeat' (first|exact trivial|refine aq ?_ ?_|refine Exists.intro _ (aq rfl ?_)|exact oq|fail))
 intro i ⟨hi, ho⟩
 by_cases hi2 : i < s.converts.length
 · have qi := q i hi2
   by_cases ht : twoP s s.converts[i]
   · rw [decide_eq_true ht] at qi
     refine code_sound (more := more8 false _ _) more8_ok FOK.wide _ ?_
     repeat' ((try conv => whnf); first|(first|refine k3 ?_ ?_|refine k4 ?_ ?_) <;> intro hb <;> (try rw [lM] at hb) <;> try (exfalso; omega)|refine aq rfl ?_|refine s5 nm nm ?_|fail)
     refine .inl ⟨_, qi, ?_⟩
     repeat' ((try conv => whnf); first|refine s4 nm ?_|fail)
     refine ⟨i + 1, Le.of (by (repeat' (first|exact trivial|refine aq ?_ ?_|exact oq|fail))) (by (repeat' (first|exact trivial|refine aq ?_ ?_|refine Exists.intro _ (aq rfl ?_)|exact oq|fail))) rfl rfl rfl, ⟨by omega, fun j hj hji => ?_⟩, by omega⟩
     rcases Nat.lt_succ_iff_lt_or_eq.1 hji with hji | rfl
     · exact ho j hj hji
     · exact ht
   · rw [decide_eq_false ht] at qi
     rw [show chkE s = 150 by unfold chkE; rw [allTwo_no hi2 ht]; rfl]
     refine code_sound (more := more8 false _ _) more8_ok FOK.wide _ ?_
     repeat' ((try conv => whnf); first|(first|refine k3 ?_ ?_|refine k4 ?_ ?_) <;> intro hb <;> (try rw [lM] at hb) <;> try (exfalso; omega)|refine aq rfl ?_|refine s5 nm nm ?_|fail)
     refine .inl ⟨_, qi, ?_⟩
     skip
     exact PSub.refl _
 · have e : i = s.converts.length := by omega
   subst e
   rw [show chkE s = 0 by unfold chkE; rw [allTwo_yes ho]; rfl]
   refine code_sound (more := more8 false _ _) more8_ok FOK.wide _ ?_
   repeat' ((try conv => whnf); first|(first|refine k3 ?_ ?_|refine k4 ?_ ?_) <;> intro hb <;> (try rw [lM] at hb) <;> try (exfalso; omega)|fail)
   exact PSub.refl _
theorem rcheck_spec (s : Src) (hs : s.sz) : PSpec Try.prog 17 [.agg (encSrc s)] (.int (chkE s)) := by
 have hl := hs.lc
 have q : ∀ i (hi : i < s.converts.length), PSpec Try.prog 29 [.agg (encSrc s), .agg (encCv s.converts[i])] (.bool (decide (twoP s s.converts[i]))) := fun i hi => rtwoWay_spec s hs _ (hs.cc _ (List.getElem_mem hi))
 refine PSpec.of_vc (fun Γ => more8 false Γ.P Γ.fx) (fun Γ => more8_ok) Try.func17 rfl Try.call17 (by simp) ?_
 rintro ⟨P, N, w0, X, β0, fx, y, hy, pk, df⟩ rfl rfl rfl hoff rfl; change y.on = false at hoff
 skip
 refine Wp.loop (fun i : Nat => ⟨[(1, .loc 1 0 0), (3, .int i)], [(1, some (.box (pures (encSrc s))))], [1]⟩) (fun i => i ≤ s.converts.length ∧ chkT s i) (fun i => s.converts.length - i) 0 (Le.of ?_ ?_ rfl rfl rfl) ⟨by omega, fun j _ h => by omega⟩ ?_
 · (repeat' (first|exact trivial|refine aq ?_ ?_|exact oq|fail))
 · (repeat' (first|exact trivial|refine aq ?_ ?_|refine Exists.intro _ (aq rfl ?_)|exact oq|fail))
 intro i ⟨hi, ho⟩
 by_cases hi2 : i < s.converts.length
 · have qi := q i hi2
   by_cases ht : twoP s s.converts[i]
   · rw [decide_eq_true ht] at qi
     refine code_sound (more := more8 false _ _) more8_ok FOK.wide _ ?_
     repeat' ((try conv => whnf); first|(first|refine k3 ?_ ?_|refine k4 ?_ ?_) <;> intro hb <;> (try rw [lM] at hb) <;> try (exfalso; omega)|fail)
     refine Wp.draw (more := more8 true _ _) more8_det more8_ok FOK.wide rfl (by decide +kernel) (by conv => lhs; reduce) ?_
     repeat' ((try conv => whnf); first|refine s5 nm nm ?_|fail)
     refine ⟨_, qi, ?_⟩
     repeat' ((try conv => whnf); first|refine s4 nm ?_|fail)
     refine ⟨i + 1, Le.of (by (repeat' (first|exact trivial|refine aq ?_ ?_|exact oq|fail))) (by (repeat' (first|exact trivial|refine aq ?_ ?_|refine Exists.intro _ (aq rfl ?_)|exact oq|fail))) rfl rfl rfl, ⟨by omega, fun j hj hji => ?_⟩, by omega⟩
     rcases Nat.lt_succ_iff_lt_or_eq.1 hji with hji | rfl
     · exact ho j hj hji
     · exact ht
   · rw [decide_eq_false ht] at qi
     rw [show chkE s = 150 by unfold chkE; rw [allTwo_no hi2 ht]; rfl]
     refine code_sound (more := more8 false _ _) more8_ok FOK.wide _ ?_
     repeat' ((try conv => whnf); first|(first|refine k3 ?_ ?_|refine k4 ?_ ?_) <;> intro hb <;> (try rw [lM] at hb) <;> try (exfalso; omega)|fail)
     refine Wp.draw (more := more8 true _ _) more8_det more8_ok FOK.wide rfl (by decide +kernel) (by conv => lhs; reduce) ?_
     repeat' ((try conv => whnf); first|refine s5 nm nm ?_|fail)
     refine ⟨_, qi, ?_⟩
     skip
     exact PSub.refl _
 · have e : i = s.converts.length := by omega
   subst e
   rw [show chkE s = 0 by unfold chkE; rw [allTwo_yes ho]; rfl]
   refine code_sound (more := more8 false _ _) more8_ok FOK.wide _ ?_
   repeat' ((try conv => whnf); first|(first|refine k3 ?_ ?_|refine k4 ?_ ?_) <;> intro hb <;> (try rw [lM] at hb) <;> try (exfalso; omega)|fail)
   exact PSub.refl _
end Go.Proofs.Ytihbkbioafdhjaa
/- Versions: claims that are valid. Conditions: none. -/
namespace Go.Proofs.Ytihbkbioafdhjaa
open Go.Avc
structure Cl where
 (schema : Int) (fields values : List Int)
def encCl (c : Cl) : List PV := [.int c.schema, encIs c.fields, encIs c.values]
def vP (s : Src) (k : Int) (c : Cl) (j : Nat) : Prop := valOK s k (c.fields.getD j 0) (c.values.getD j 0) = true ∧ (0 < j → c.fields.getD (j - 1) 0 < c.fields.getD j 0)
instance (s : Src) (k : Int) (c : Cl) (j : Nat) : Decidable (vP s k c j) := by unfold vP; infer_instance
def validP (s : Src) (k : Int) (c : Cl) : Prop := c.schema = k ∧ c.fields.length = c.values.length ∧ ∀ j, j < c.fields.length → vP s k c j
instance (s : Src) (k : Int) (c : Cl) : Decidable (validP s k c) := by unfold validP; infer_instance
theorem valOK_in {s : Src} {k f v : Int} (h : valOK s k f v = true) : ∃ (a m : Nat) (ha : a < s.schemas.length) (hm : m < s.schemas[a].fields.length), k = a ∧ f = m := by
 unfold valOK at h
 rcases tyAt_cases s k f with ⟨a, m, ha, hm, rfl, rfl, _⟩ | ⟨_, h2⟩
 · exact ⟨a, m, ha, hm, rfl, rfl⟩
 · rw [h2] at h; cases h
def lastF (c : Cl) (i : Nat) : Int := if i = 0 then -1 else c.fields.getD (i - 1) 0
attribute [local irreducible] PSub Wp PSpec Le Need Both
theorem valid_spec (s : Src) (hs : s.sz) (k : Int) (c : Cl) (hl : c.fields.length ≤ 1000000) : PSpec Try.prog 47 [.agg (encSrc s), .int k, .agg (encCl c)] (.bool (decide (validP s k c))) := by
 have no : ¬ validP s k c → decide (validP s k c) = false := fun h => decide_eq_false h
 have lF : (c.fields.map fun x => [PV.int x]).length = c.fields.length := List.length_map ..
 have lV : (c.values.map fun x => [PV.int x]).length = c.values.length := List.length_map ..
 by_cases h1 : c.schema = k
 case neg =>
   rw [no fun h => h1 h.1]
   refine PSpec.of_vc (fun Γ => more8 false Γ.P Γ.fx) (fun Γ => more8_ok) Try.func47 rfl Try.call47 (by simp) ?_
   rintro ⟨P, N, w0, X, β0, fx, y, hy, pk, df⟩ rfl rfl rfl hoff rfl; change y.on = false at hoff
   repeat' ((try conv => whnf); first|(first|refine k3 ?_ ?_|refine k4 ?_ ?_) <;> intro hb <;> (try rw [lM] at hb) <;> try (exfalso; omega)|fail)
   exact PSub.refl _
 by_cases h2 : c.fields.length = c.values.length
 case neg =>
   rw [no fun h => h2 h.2.1]
   refine PSpec.of_vc (fun Γ => more8 false Γ.P Γ.fx) (fun Γ => more8_ok) Try.func47 rfl Try.call47 (by simp) ?_
   rintro ⟨P, N, w0, X, β0, fx, y, hy, pk, df⟩ rfl rfl rfl hoff rfl; change y.on = false at hoff
   repeat' ((try conv => whnf); first|(first|refine k3 ?_ ?_|refine k4 ?_ ?_) <;> intro hb <;> (try rw [lM] at hb) <;> try (exfalso; omega)|fail)
   exact PSub.refl _
 refine PSpec.of_vc (fun Γ => more8 false Γ.P Γ.fx) (fun Γ => more8_ok) Try.func47 rfl Try.call47 (by simp) ?_
 rintro ⟨P, N, w0, X, β0, fx, y, hy, pk, df⟩ rfl rfl rfl hoff rfl; change y.on = false at hoff
 repeat' ((try conv => whnf); first|(first|refine k3 ?_ ?_|refine k4 ?_ ?_) <;> intro hb <;> (try rw [lM] at hb) <;> try (exfalso; omega)|fail)
 refine Wp.loop (fun i : Nat => ⟨[(1, .int k), (3, .loc 3 0 0), (5, .loc 5 0 0), (7, .int (lastF c i)), (24, .pure (encIs c.fields)), (25, .int c.fields.length), (26, .int i)], [(3, some (.box (pures (encSrc s)))), (5, some (.box (pures (encCl c))))], [3, 5]⟩) (fun i => i ≤ c.fields.length ∧ ∀ j, j < i → vP s k c j) (fun i => c.fields.length - i) 0 (Le.of ?_ ?_ rfl rfl rfl) ⟨by omega, fun j h => by omega⟩ ?_
 · (repeat' (first|exact trivial|refine aq ?_ ?_|exact oq|exact l1 bd|fail))
 · (repeat' (first|exact trivial|refine aq ?_ ?_|refine Exists.intro _ (aq rfl ?_)|exact oq|fail))
 intro i ⟨hi, ho⟩
 by_cases hi2 : i < c.fields.length
 · have hv2 : i < c.values.length := by omega
   have q := value_spec s hs k c.fields[i] c.values[i]
   have g1 := getD_at hi2 (0 : Int)
   have g2 := getD_at hv2 (0 : Int)
   have hnx : lastF c (i + 1) = c.fields[i] := by unfold lastF; rw [if_neg (by omega), Nat.add_sub_cancel, g1]
   have mno : ¬ vP s k c i → ¬ validP s k c := fun h h' => h (h'.2.2 i hi2)
   obtain ⟨la, hla⟩ : ∃ la, la = lastF c i := ⟨_, rfl⟩
   rw [← hla]
   by_cases hf : c.fields[i] ≤ la
   · rw [no (mno fun h => by
       obtain ⟨v1, v2⟩ := h
       rw [g1] at v1 v2
       rw [hla] at hf
       unfold lastF at hf
       split at hf
       · obtain ⟨_, m, _, _, _, e⟩ := valOK_in v1
         omega
       · have := v2 (by omega)
         omega)]
     refine code_sound (more := more8 false _ _) more8_ok FOK.wide _ ?_
     repeat' ((try conv => whnf); first|(first|refine k3 ?_ ?_|refine k4 ?_ ?_) <;> intro hb <;> (try rw [lM] at hb) <;> try (exfalso; omega)|refine s5 nm nm ?_|fail)
     refine Wp.draw (more := more8 true _ _) more8_det more8_ok FOK.wide rfl (by decide +kernel) (by conv => lhs; reduce) ?_
     repeat' ((try conv => whnf); first|(first|refine k3 ?_ ?_|refine k4 ?_ ?_) <;> intro hb <;> (try rw [lM] at hb) <;> try (exfalso; omega)|fail)
     exact PSub.refl _
   by_cases hv : valOK s k c.fields[i] c.values[i] = true
   · rw [hv] at q
     have hvp : vP s k c i := by
       unfold vP
       rw [g1, g2]
       refine ⟨hv, fun h0 => ?_⟩
       rw [hla] at hf
       unfold lastF at hf
       rw [if_neg (by omega)] at hf
       omega
     refine code_sound (more := more8 false _ _) more8_ok FOK.wide _ ?_
     repeat' ((try conv => whnf); first|(first|refine k3 ?_ ?_|refine k4 ?_ ?_) <;> intro hb <;> (try rw [lM] at hb) <;> try (exfalso; omega)|refine s5 nm nm ?_|fail)
     refine Wp.draw (more := more8 true _ _) more8_det more8_ok FOK.wide rfl (by decide +kernel) (by conv => lhs; reduce) ?_
     repeat' ((try conv => whnf); first|(first|refine k3 ?_ ?_|refine k4 ?_ ?_) <;> intro hb <;> (try rw [lM] at hb) <;> try (exfalso; omega)|refine s5 nm nm ?_|fail)
     refine ⟨_, q, ?_⟩
     repeat' ((try conv => whnf); first|refine s4 nm ?_|fail)
     refine ⟨i + 1, Le.of ?_ (by (repeat' (first|exact trivial|refine aq ?_ ?_|refine Exists.intro _ (aq rfl ?_)|exact oq|fail))) rfl rfl rfl, ⟨by omega, fun j hj => ?_⟩, by omega⟩
     · rw [hnx]
       (repeat' (first|exact trivial|refine aq ?_ ?_|exact oq|fail))
     · rcases Nat.lt_succ_iff_lt_or_eq.1 hj with hj | rfl
       · exact ho j hj
       · exact hvp
   · rw [no (mno fun h => hv (by have := h.1; rw [g1, g2] at this; exact this))]
     rw [Bool.not_eq_true] at hv
     rw [hv] at q
     refine code_sound (more := more8 false _ _) more8_ok FOK.wide _ ?_
     repeat' ((try conv => whnf); first|(first|refine k3 ?_ ?_|refine k4 ?_ ?_) <;> intro hb <;> (try rw [lM] at hb) <;> try (exfalso; omega)|refine s5 nm nm ?_|fail)
     refine Wp.draw (more := more8 true _ _) more8_det more8_ok FOK.wide rfl (by decide +kernel) (by conv => lhs; reduce) ?_
     repeat' ((try conv => whnf); first|(first|refine k3 ?_ ?_|refine k4 ?_ ?_) <;> intro hb <;> (try rw [lM] at hb) <;> try (exfalso; omega)|refine s5 nm nm ?_|fail)
     refine ⟨_, q, ?_⟩
     skip
     exact PSub.refl _
 · have e : i = c.fields.length := by omega
   subst e
   rw [decide_eq_true (show validP s k c from ⟨h1, h2, ho⟩)]
   refine code_sound (more := more8 false _ _) more8_ok FOK.wide _ ?_
   repeat' ((try conv => whnf); first|(first|refine k3 ?_ ?_|refine k4 ?_ ?_) <;> intro hb <;> (try rw [lM] at hb) <;> try (exfalso; omega)|fail)
   exact PSub.refl _
theorem rvalid_spec (s : Src) (hs : s.sz) (k : Nat) (hk : k < s.schemas.length) (c : Cl) (hl : c.fields.length ≤ 1000000) : PSpec Try.prog 38 [.agg (encSrc s), .int k, .agg (encCl c)] (.bool (decide (validP s k c))) := by
 have no : ¬ validP s k c → decide (validP s k c) = false := fun h => decide_eq_false h
 have hls := hs.ls
 have lS : (s.schemas.map encSc).length = s.schemas.length := List.length_map ..
 have lF : (c.fields.map fun x => [PV.int x]).length = c.fields.length := List.length_map ..
 have lV : (c.values.map fun x => [PV.int x]).length = c.values.length := List.length_map ..
 have lA : (s.schemas[k].fields.map encFd).length = s.schemas[k].fields.length := List.length_map ..
 have hlf := (hs.ss _ (List.getElem_mem hk)).f
 by_cases h1 : c.schema = k
 case neg =>
   rw [no fun h => h1 h.1]
   refine PSpec.of_vc (fun Γ => more8 false Γ.P Γ.fx) (fun Γ => more8_ok) Try.func38 rfl Try.call38 (by simp) ?_
   rintro ⟨P, N, w0, X, β0, fx, y, hy, pk, df⟩ rfl rfl rfl hoff rfl; change y.on = false at hoff
   repeat' ((try conv => whnf); first|(first|refine k3 ?_ ?_|refine k4 ?_ ?_) <;> intro hb <;> (try rw [lM] at hb) <;> try (exfalso; omega)|fail)
   exact PSub.refl _
 by_cases h2 : c.fields.length = c.values.length
 case neg =>
   rw [no fun h => h2 h.2.1]
   refine PSpec.of_vc (fun Γ => more8 false Γ.P Γ.fx) (fun Γ => more8_ok) Try.func38 rfl Try.call38 (by simp) ?_
   rintro ⟨P, N, w0, X, β0, fx, y, hy, pk, df⟩ rfl rfl rfl hoff rfl; change y.on = false at hoff
   repeat' ((try conv => whnf); first|(first|refine k3 ?_ ?_|refine k4 ?_ ?_) <;> intro hb <;> (try rw [lM] at hb) <;> try (exfalso; omega)|fail)
   exact PSub.refl _
 refine PSpec.of_vc (fun Γ => more8 false Γ.P Γ.fx) (fun Γ => more8_ok) Try.func38 rfl Try.call38 (by simp) ?_
 rintro ⟨P, N, w0, X, β0, fx, y, hy, pk, df⟩ rfl rfl rfl hoff rfl; change y.on = false at hoff
 repeat' ((try conv => whnf); first|(first|refine k3 ?_ ?_|refine k4 ?_ ?_) <;> intro hb <;> (try rw [lM] at hb) <;> try (exfalso; omega)|fail)
 refine Wp.loop (fun i : Nat => ⟨[(1, .int k), (3, .loc 3 0 0), (5, .loc 5 0 0), (7, .int i)], [(3, some (.box (pures (encSrc s)))), (5, some (.box (pures (encCl c))))], [3, 5]⟩) (fun i => i ≤ c.fields.length ∧ ∀ j, j < i → vP s k c j) (fun i => c.fields.length - i) 0 (Le.of ?_ ?_ rfl rfl rfl) ⟨by omega, fun j h => by omega⟩ ?_
 · (repeat' (first|exact trivial|refine aq ?_ ?_|exact oq|fail))
 · (repeat' (first|exact trivial|refine aq ?_ ?_|refine Exists.intro _ (aq rfl ?_)|exact oq|fail))
 intro i ⟨hi, ho⟩
 by_cases hi2 : i < c.fields.length
 · have hv2 : i < c.values.length := by omega
   have q := rvalue_spec s hs k c.fields[i] c.values[i]
   have g1 := getD_at hi2 (0 : Int)
   have g2 := getD_at hv2 (0 : Int)
   have mno : ¬ vP s k c i → ¬ validP s k c := fun h h' => h (h'.2.2 i hi2)
   by_cases hr : c.fields[i] < 0 ∨ (s.schemas[k].fields.length : Int) ≤ c.fields[i]
   · rw [no (mno fun h => by
       obtain ⟨v1, v2⟩ := h
       rw [g1] at v1
       obtain ⟨a, m, ha, hm, e1, e2⟩ := valOK_in v1
       obtain rfl : k = a := by omega
       omega)]
     by_cases z1 : c.fields[i] < 0
     · refine code_sound (more := more8 false _ _) more8_ok FOK.wide _ ?_
       repeat' ((try conv => whnf); first|(first|refine k3 ?_ ?_|refine k4 ?_ ?_) <;> intro hb <;> (try rw [lM] at hb) <;> try (exfalso; omega)|fail)
       refine Wp.draw (more := more8 true _ _) more8_det more8_ok FOK.wide rfl (by decide +kernel) (by conv => lhs; reduce) ?_
       repeat' ((try conv => whnf); first|(first|refine k3 ?_ ?_|refine k4 ?_ ?_) <;> intro hb <;> (try rw [lM] at hb) <;> try (exfalso; omega)|refine s5 nm nm ?_|fail)
       exact PSub.refl _
     have z2 : (s.schemas[k].fields.length : Int) ≤ c.fields[i] := by omega
     refine code_sound (more := more8 false _ _) more8_ok FOK.wide _ ?_
     repeat' ((try conv => whnf); first|(first|refine k3 ?_ ?_|refine k4 ?_ ?_) <;> intro hb <;> (try rw [lM] at hb) <;> try (exfalso; omega)|fail)
     refine Wp.draw (more := more8 true _ _) more8_det more8_ok FOK.wide rfl (by decide +kernel) (by conv => lhs; reduce) ?_
     repeat' ((try conv => whnf); first|(first|refine k3 ?_ ?_|refine k4 ?_ ?_) <;> intro hb <;> (try rw [lM] at hb) <;> try (exfalso; omega)|refine s5 nm nm ?_|fail)
     exact PSub.refl _
   have hnext : ∀ j, j < i + 1 → vP s k c i → vP s k c j := fun j hj h => by
     rcases Nat.lt_succ_iff_lt_or_eq.1 hj with hj | rfl
     · exact ho j hj
     · exact h
   by_cases h0 : i = 0
   · by_cases hv : valOK s k c.fields[i] c.values[i] = true
     · rw [hv] at q
       have hvp : vP s k c i := by
         unfold vP
         rw [g1, g2]
         exact ⟨hv, fun h => by omega⟩
       refine code_sound (more := more8 false _ _) more8_ok FOK.wide _ ?_
       repeat' ((try conv => whnf); first|(first|refine k3 ?_ ?_|refine k4 ?_ ?_) <;> intro hb <;> (try rw [lM] at hb) <;> try (exfalso; omega)|fail)
       refine Wp.draw (more := more8 true _ _) more8_det more8_ok FOK.wide rfl (by decide +kernel) (by conv => lhs; reduce) ?_
       repeat' ((try conv => whnf); first|(first|refine k3 ?_ ?_|refine k4 ?_ ?_) <;> intro hb <;> (try rw [lM] at hb) <;> try (exfalso; omega)|refine s5 nm nm ?_|fail)
       refine ⟨_, q, ?_⟩
       repeat' ((try conv => whnf); first|refine s4 nm ?_|fail)
       exact ⟨i + 1, Le.of (by (repeat' (first|exact trivial|refine aq ?_ ?_|exact oq|fail))) (by (repeat' (first|exact trivial|refine aq ?_ ?_|refine Exists.intro _ (aq rfl ?_)|exact oq|fail))) rfl rfl rfl, ⟨by omega, fun j hj => hnext j hj hvp⟩, by omega⟩
     · rw [no (mno fun h => hv (by have := h.1; rw [g1, g2] at this; exact this))]
       rw [Bool.not_eq_true] at hv
       rw [hv] at q
       refine code_sound (more := more8 false _ _) more8_ok FOK.wide _ ?_
       repeat' ((try conv => whnf); first|(first|refine k3 ?_ ?_|refine k4 ?_ ?_) <;> intro hb <;> (try rw [lM] at hb) <;> try (exfalso; omega)|fail)
       refine Wp.draw (more := more8 true _ _) more8_det more8_ok FOK.wide rfl (by decide +kernel) (by conv => lhs; reduce) ?_
       repeat' ((try conv => whnf); first|(first|refine k3 ?_ ?_|refine k4 ?_ ?_) <;> intro hb <;> (try rw [lM] at hb) <;> try (exfalso; omega)|refine s5 nm nm ?_|fail)
       refine ⟨_, q, ?_⟩
       skip
       exact PSub.refl _
   have hi0 : 0 < i := by omega
   have hp : i - 1 < c.fields.length := by omega
   have g0 := getD_at hp (0 : Int)
   have ew : IntKind.i64.wrap ((i : Int) - 1) = (i : Int) - 1 := by rw [IntKind.wrap_i64]; omega
   have en : ((i : Int) - 1).toNat = i - 1 := by omega
   have hpt : ((i : Int) - 1).toNat < c.fields.length := by omega
   have hE : c.fields[((i : Int) - 1).toNat] = c.fields[i - 1] := by simp only [en]
   by_cases ho2 : c.fields[i] ≤ c.fields[((i : Int) - 1).toNat]
   · rw [no (mno fun h => by have := h.2 hi0; rw [g0, g1] at this; omega)]
     refine code_sound (more := more8 false _ _) more8_ok FOK.wide _ ?_
     repeat' ((try conv => whnf); first|(first|refine k3 ?_ ?_|refine k4 ?_ ?_) <;> intro hb <;> (try rw [lM] at hb) <;> try (exfalso; omega)|fail)
     refine Wp.draw (more := more8 true _ _) more8_det more8_ok FOK.wide rfl (by decide +kernel) (by conv => lhs; reduce) ?_
     repeat' ((try conv => whnf); first|(first|refine k3 ?_ ?_|refine k4 ?_ ?_) <;> intro hb <;> (try rw [lM] at hb) <;> try (exfalso; omega)|refine s4 nm ?_|refine s5 nm nm ?_|refine s6 nm nm ?_|fail)
     exact PSub.refl _
   by_cases hv : valOK s k c.fields[i] c.values[i] = true
   · rw [hv] at q
     have hvp : vP s k c i := by
       unfold vP
       rw [g1, g2, g0]
       exact ⟨hv, fun h => by omega⟩
     refine code_sound (more := more8 false _ _) more8_ok FOK.wide _ ?_
     repeat' ((try conv => whnf); first|(first|refine k3 ?_ ?_|refine k4 ?_ ?_) <;> intro hb <;> (try rw [lM] at hb) <;> try (exfalso; omega)|fail)
     refine Wp.draw (more := more8 true _ _) more8_det more8_ok FOK.wide rfl (by decide +kernel) (by conv => lhs; reduce) ?_
     repeat' ((try conv => whnf); first|(first|refine k3 ?_ ?_|refine k4 ?_ ?_) <;> intro hb <;> (try rw [lM] at hb) <;> try (exfalso; omega)|refine s4 nm ?_|refine s5 nm nm ?_|refine s6 nm nm ?_|fail)
     refine ⟨_, q, ?_⟩
     repeat' ((try conv => whnf); first|refine s4 nm ?_|fail)
     exact ⟨i + 1, Le.of (by (repeat' (first|exact trivial|refine aq ?_ ?_|exact oq|fail))) (by (repeat' (first|exact trivial|refine aq ?_ ?_|refine Exists.intro _ (aq rfl ?_)|exact oq|fail))) rfl rfl rfl, ⟨by omega, fun j hj => hnext j hj hvp⟩, by omega⟩
   · rw [no (mno fun h => hv (by have := h.1; rw [g1, g2] at this; exact this))]
     rw [Bool.not_eq_true] at hv
     rw [hv] at q
     refine code_sound (more := more8 false _ _) more8_ok FOK.wide _ ?_
     repeat' ((try conv => whnf); first|(first|refine k3 ?_ ?_|refine k4 ?_ ?_) <;> intro hb <;> (try rw [lM] at hb) <;> try (exfalso; omega)|fail)
     refine Wp.draw (more := more8 true _ _) more8_det more8_ok FOK.wide rfl (by decide +kernel) (by conv => lhs; reduce) ?_
     repeat' ((try conv => whnf); first|(first|refine k3 ?_ ?_|refine k4 ?_ ?_) <;> intro hb <;> (try rw [lM] at hb) <;> try (exfalso; omega)|refine s4 nm ?_|refine s5 nm nm ?_|refine s6 nm nm ?_|fail)
     refine ⟨_, q, ?_⟩
     skip
     exact PSub.refl _
 · have e : i = c.fields.length := by omega
   subst e
   rw [decide_eq_true (show validP s k c from ⟨h1, h2, ho⟩)]
   refine code_sound (more := more8 false _ _) more8_ok FOK.wide _ ?_
   repeat' ((try conv => whnf); first|(first|refine k3 ?_ ?_|refine k4 ?_ ?_) <;> intro hb <;> (try rw [lM] at hb) <;> try (exfalso; omega)|fail)
   exact PSub.refl _
end Go.Proofs.Ytihbkbioafdhjaa
