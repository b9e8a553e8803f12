/- Versions: Forward and Back, both. Conditions: none. -/
import Derived.Test.YtihbkbioafdhjaaWd
import Derived.Test.YtihbkbioafdhjaaWl
set_option linter.unusedSimpArgs false
set_option linter.unusedVariables false
set_option maxRecDepth 20000
set_option maxHeartbeats 4000000
namespace Go.Proofs.Ytihbkbioafdhjaa
open Go.Avc
def zeroCv : Cv := ⟨⟨#[]⟩, ⟨#[]⟩, 0, 0, []⟩
def zeroCl : Cl := ⟨0, [], []⟩
def fwdR (s : Src) (n : Int) (back : Bool) (c : Cl) : Cl × Int := if allTwo s = true then (if 0 ≤ n ∧ n < s.converts.length then perfR s (dirC back (s.converts.getD n.toNat zeroCv)) c else (zeroCl, 1)) else (zeroCl, 150)
theorem allTwo_at {s : Src} (h : allTwo s = true) {i : Nat} (hi : i < s.converts.length) : twoP s s.converts[i] := of_decide_eq_true (List.all_eq_true.1 h _ (List.getElem_mem hi))
theorem fwdR_no {s : Src} (h : ¬ allTwo s = true) (n : Int) (back : Bool) (c : Cl) : fwdR s n back c = (zeroCl, 150) := if_neg h
theorem fwdR_arg {s : Src} (h : allTwo s = true) {n : Int} (hn : ¬ (0 ≤ n ∧ n < s.converts.length)) (back : Bool) (c : Cl) : fwdR s n back c = (zeroCl, 1) := by unfold fwdR; rw [if_pos h, if_neg hn]
theorem fwdR_at {s : Src} (h : allTwo s = true) {k : Nat} (hk : k < s.converts.length) (back : Bool) (c : Cl) : fwdR s k back c = perfR s (dirC back s.converts[k]) c := by
 unfold fwdR; rw [if_pos h, if_pos (by omega), Int.toNat_natCast, getD_at hk]
structure Src.few (s : Src) : Prop where
 nc : s.converts.length ≤ 4
 ns : s.schemas.length ≤ 5
 nm : ∀ c ∈ s.converts, c.moves.length ≤ 20
attribute [local irreducible] PSub Wp PSpec Le Need Both
theorem convertBy_spec (s : Src) (hs : s.sz) (hg : s.rg) (hw : s.few) (n : Int) (back : Bool) (c : Cl) (hf : c.fields.length ≤ 100) :
   PSpec Try.prog 25 [.agg (encSrc s), .int n, .bool back, .agg (encCl c)] (encCE (fwdR s n back c)) := by
 have hlc := hw.nc
 have lC : (s.converts.map encCv).length = s.converts.length := List.length_map ..
 have qc := check_spec s hs hg
 by_cases ha : allTwo s = true
 case neg =>
   rw [fwdR_no ha]
   rw [show chkE s = 150 from if_neg ha] at qc
   refine PSpec.of_vc (fun Γ => more8 false Γ.P Γ.fx) (fun Γ => more8_ok) Try.func25 rfl Try.call25 (by simp) ?_
   rintro ⟨P, N, w0, X, β0, fx, y, hy, pk, df⟩ rfl rfl rfl hoff rfl; change y.on = false at hoff
   skip
   refine .inl ⟨_, qc, ?_⟩
   repeat' ((try conv => whnf); first|refine aq rfl ?_|fail)
   exact PSub.tup ⟨PSub.agg ⟨PSub.refl _, PSub.nil 1, PSub.nil 1, trivial⟩, PSub.refl _, trivial⟩
 rw [show chkE s = 0 from if_pos ha] at qc
 by_cases hn : 0 ≤ n ∧ n < s.converts.length
 case neg =>
   rw [fwdR_arg ha hn]
   by_cases h0 : n < 0
   · refine PSpec.of_vc (fun Γ => more8 false Γ.P Γ.fx) (fun Γ => more8_ok) Try.func25 rfl Try.call25 (by simp) ?_
     rintro ⟨P, N, w0, X, β0, fx, y, hy, pk, df⟩ rfl rfl rfl hoff rfl; change y.on = false at hoff
     skip
     refine .inl ⟨_, qc, ?_⟩
     repeat' ((try conv => whnf); first|(first|refine k3 ?_ ?_|refine k4 ?_ ?_) <;> intro hb <;> (try rw [lM] at hb) <;> try (exfalso; omega)|refine aq rfl ?_|fail)
     exact PSub.tup ⟨PSub.agg ⟨PSub.refl _, PSub.nil 1, PSub.nil 1, trivial⟩, PSub.refl _, trivial⟩
   · refine PSpec.of_vc (fun Γ => more8 false Γ.P Γ.fx) (fun Γ => more8_ok) Try.func25 rfl Try.call25 (by simp) ?_
     rintro ⟨P, N, w0, X, β0, fx, y, hy, pk, df⟩ rfl rfl rfl hoff rfl; change y.on = false at hoff
     skip
     refine .inl ⟨_, qc, ?_⟩
     repeat' ((try conv => whnf); first|(first|refine k3 ?_ ?_|refine k4 ?_ ?_) <;> intro hb <;> (try rw [lM] at hb) <;> try (exfalso; omega)|refine aq rfl ?_|fail)
     exact PSub.tup ⟨PSub.agg ⟨PSub.refl _, PSub.nil 1, PSub.nil 1, trivial⟩, PSub.refl _, trivial⟩
 obtain ⟨k, rfl⟩ : ∃ k : Nat, n = k := ⟨n.toNat, by omega⟩
 have hk : k < s.converts.length := by omega
 rw [fwdR_at ha hk]
 have qp := perform_spec s hs _ (allTwo_at ha hk) back c hf (by have := hw.nm _ (List.getElem_mem hk); omega)
 obtain ⟨x, hx⟩ : ∃ x, x = perfR s (dirC back s.converts[k]) c := ⟨_, rfl⟩
 rw [← hx] at qp ⊢
 refine PSpec.of_vc (fun Γ => more8 false Γ.P Γ.fx) (fun Γ => more8_ok) Try.func25 rfl Try.call25 (by simp) ?_
 rintro ⟨P, N, w0, X, β0, fx, y, hy, pk, df⟩ rfl rfl rfl hoff rfl; change y.on = false at hoff
 skip
 refine .inl ⟨_, qc, ?_⟩
 repeat' ((try conv => whnf); first|(first|refine k3 ?_ ?_|refine k4 ?_ ?_) <;> intro hb <;> (try rw [lM] at hb) <;> try (exfalso; omega)|fail)
 refine Wp.draw (more := more8 true _ _) more8_det more8_ok FOK.wide rfl (by decide +kernel) (by conv => lhs; reduce) ?_
 repeat' ((try conv => whnf); first|refine s5 nm nm ?_|fail)
 refine ⟨_, qp, ?_⟩
 repeat' ((try conv => whnf); first|refine aq rfl ?_|fail)
 exact PSub.refl _
theorem Forward_spec (s : Src) (hs : s.sz) (hg : s.rg) (hw : s.few) (n : Int) (c : Cl) (hf : c.fields.length ≤ 100) :
   PSpec Try.prog 11 [.agg (encSrc s), .int n, .agg (encCl c)] (encCE (fwdR s n false c)) := by
 have q := convertBy_spec s hs hg hw n false c hf
 obtain ⟨x, hx⟩ : ∃ x, x = fwdR s n false c := ⟨_, rfl⟩
 rw [← hx] at q ⊢
 refine PSpec.of_vc (fun Γ => more8 false Γ.P Γ.fx) (fun Γ => more8_ok) Try.func11 rfl Try.call11 (by simp) ?_
 rintro ⟨P, N, w0, X, β0, fx, y, hy, pk, df⟩ rfl rfl rfl hoff rfl; change y.on = false at hoff
 skip
 refine .inl ⟨_, q, ?_⟩
 repeat' ((try conv => whnf); first|refine aq rfl ?_|fail)
 exact PSub.refl _
theorem Back_spec (s : Src) (hs : s.sz) (hg : s.rg) (hw : s.few) (n : Int) (c : Cl) (hf : c.fields.length ≤ 100) :
   PSpec Try.prog 13 [.agg (encSrc s), .int n, .agg (encCl c)] (encCE (fwdR s n true c)) := by
 have q := convertBy_spec s hs hg hw n true c hf
 obtain ⟨x, hx⟩ : ∃ x, x = fwdR s n true c := ⟨_, rfl⟩
 rw [← hx] at q ⊢
 refine PSpec.of_vc (fun Γ => more8 false Γ.P Γ.fx) (fun Γ => more8_ok) Try.func13 rfl Try.call13 (by simp) ?_
 rintro ⟨P, N, w0, X, β0, fx, y, hy, pk, df⟩ rfl rfl rfl hoff rfl; change y.on = false at hoff
 skip
 refine .inl ⟨_, q, ?_⟩
 repeat' ((try conv => whnf); first|refine aq rfl ?_|fail)
 exact PSub.refl _
theorem rForward_spec (s : Src) (hs : s.sz) (hw : s.few) (n : Int) (c : Cl) (hf : c.fields.length ≤ 100) :
   PSpec Try.prog 12 [.agg (encSrc s), .int n, .agg (encCl c)] (encCE (fwdR s n false c)) := by
 have hlc := hw.nc
 have lC : (s.converts.map encCv).length = s.converts.length := List.length_map ..
 have qc := rcheck_spec s hs
 by_cases ha : allTwo s = true
 case neg =>
   rw [fwdR_no ha]
   rw [show chkE s = 150 from if_neg ha] at qc
   refine PSpec.of_vc (fun Γ => more8 false Γ.P Γ.fx) (fun Γ => more8_ok) Try.func12 rfl Try.call12 (by simp) ?_
   rintro ⟨P, N, w0, X, β0, fx, y, hy, pk, df⟩ rfl rfl rfl hoff rfl; change y.on = false at hoff
   skip
   refine .inl ⟨_, qc, ?_⟩
   repeat' ((try conv => whnf); first|refine aq rfl ?_|fail)
   exact PSub.tup ⟨PSub.agg ⟨PSub.refl _, PSub.nil 1, PSub.nil 1, trivial⟩, PSub.refl _, trivial⟩
 rw [show chkE s = 0 from if_pos ha] at qc
 by_cases hn : 0 ≤ n ∧ n < s.converts.length
 case neg =>
   rw [fwdR_arg ha hn]
   by_cases h0 : n < 0
   · refine PSpec.of_vc (fun Γ => more8 false Γ.P Γ.fx) (fun Γ => more8_ok) Try.func12 rfl Try.call12 (by simp) ?_
     rintro ⟨P, N, w0, X, β0, fx, y, hy, pk, df⟩ rfl rfl rfl hoff rfl; change y.on = false at hoff
     skip
     refine .inl ⟨_, qc, ?_⟩
     repeat' ((try conv => whnf); first|(first|refine k3 ?_ ?_|refine k4 ?_ ?_) <;> intro hb <;> (try rw [lM] at hb) <;> try (exfalso; omega)|refine aq rfl ?_|fail)
     exact PSub.tup ⟨PSub.agg ⟨PSub.refl _, PSub.nil 1, PSub.nil 1, trivial⟩, PSub.refl _, trivial⟩
   · refine PSpec.of_vc (fun Γ => more8 false Γ.P Γ.fx) (fun Γ => more8_ok) Try.func12 rfl Try.call12 (by simp) ?_
     rintro ⟨P, N, w0, X, β0, fx, y, hy, pk, df⟩ rfl rfl rfl hoff rfl; change y.on = false at hoff
     skip
     refine .inl ⟨_, qc, ?_⟩
     repeat' ((try conv => whnf); first|(first|refine k3 ?_ ?_|refine k4 ?_ ?_) <;> intro hb <;> (try rw [lM] at hb) <;> try (exfalso; omega)|refine aq rfl ?_|fail)
     exact PSub.tup ⟨PSub.agg ⟨PSub.refl _, PSub.nil 1, PSub.nil 1, trivial⟩, PSub.refl _, trivial⟩
 obtain ⟨k, rfl⟩ : ∃ k : Nat, n = k := ⟨n.toNat, by omega⟩
 have hk : k < s.converts.length := by omega
 rw [fwdR_at ha hk]
 have ht := allTwo_at ha hk
 obtain ⟨ka, hka, ea, _⟩ := wholeAt_in ht.2.1
 have qp := rperform_spec s hs s.converts[k] c ka hka ea hf (by have := hw.nm _ (List.getElem_mem hk); omega) (fun m hm => by have := twoP_shift ht m hm; omega)
 show PSpec _ _ _ (encCE (perfR s s.converts[k] c))
 obtain ⟨x, hx⟩ : ∃ x, x = perfR s s.converts[k] c := ⟨_, rfl⟩
 rw [← hx] at qp ⊢
 refine PSpec.of_vc (fun Γ => more8 false Γ.P Γ.fx) (fun Γ => more8_ok) Try.func12 rfl Try.call12 (by simp) ?_
 rintro ⟨P, N, w0, X, β0, fx, y, hy, pk, df⟩ rfl rfl rfl hoff rfl; change y.on = false at hoff
 skip
 refine .inl ⟨_, qc, ?_⟩
 repeat' ((try conv => whnf); first|(first|refine k3 ?_ ?_|refine k4 ?_ ?_) <;> intro hb <;> (try rw [lM] at hb) <;> try (exfalso; omega)|fail)
 refine Wp.draw (more := more8 true _ _) more8_det more8_ok FOK.wide rfl (by decide +kernel) (by conv => lhs; reduce) ?_
 repeat' ((try conv => whnf); first|refine s5 nm nm ?_|fail)
 refine ⟨_, qp, ?_⟩
 repeat' ((try conv => whnf); first|refine aq rfl ?_|fail)
 exact PSub.refl _
theorem rBack_spec (s : Src) (hs : s.sz) (hw : s.few) (n : Int) (c : Cl) (hf : c.fields.length ≤ 100) :
   PSpec Try.prog 14 [.agg (encSrc s), .int n, .agg (encCl c)] (encCE (fwdR s n true c)) := by
 have hlc := hw.nc
 have lC : (s.converts.map encCv).length = s.converts.length := List.length_map ..
 have qc := rcheck_spec s hs
 by_cases ha : allTwo s = true
 case neg =>
   rw [fwdR_no ha]
   rw [show chkE s = 150 from if_neg ha] at qc
   refine PSpec.of_vc (fun Γ => more8 false Γ.P Γ.fx) (fun Γ => more8_ok) Try.func14 rfl Try.call14 (by simp) ?_
   rintro ⟨P, N, w0, X, β0, fx, y, hy, pk, df⟩ rfl rfl rfl hoff rfl; change y.on = false at hoff
   skip
   refine .inl ⟨_, qc, ?_⟩
   repeat' ((try conv => whnf); first|refine aq rfl ?_|fail)
   exact PSub.tup ⟨PSub.agg ⟨PSub.refl _, PSub.nil 1, PSub.nil 1, trivial⟩, PSub.refl _, trivial⟩
 rw [show chkE s = 0 from if_pos ha] at qc
 by_cases hn : 0 ≤ n ∧ n < s.converts.length
 case neg =>
   rw [fwdR_arg ha hn]
   by_cases h0 : n < 0
   · refine PSpec.of_vc (fun Γ => more8 false Γ.P Γ.fx) (fun Γ => more8_ok) Try.func14 rfl Try.call14 (by simp) ?_
     rintro ⟨P, N, w0, X, β0, fx, y, hy, pk, df⟩ rfl rfl rfl hoff rfl; change y.on = false at hoff
     skip
     refine .inl ⟨_, qc, ?_⟩
     repeat' ((try conv => whnf); first|(first|refine k3 ?_ ?_|refine k4 ?_ ?_) <;> intro hb <;> (try rw [lM] at hb) <;> try (exfalso; omega)|refine aq rfl ?_|fail)
     exact PSub.tup ⟨PSub.agg ⟨PSub.refl _, PSub.nil 1, PSub.nil 1, trivial⟩, PSub.refl _, trivial⟩
   · refine PSpec.of_vc (fun Γ => more8 false Γ.P Γ.fx) (fun Γ => more8_ok) Try.func14 rfl Try.call14 (by simp) ?_
     rintro ⟨P, N, w0, X, β0, fx, y, hy, pk, df⟩ rfl rfl rfl hoff rfl; change y.on = false at hoff
     skip
     refine .inl ⟨_, qc, ?_⟩
     repeat' ((try conv => whnf); first|(first|refine k3 ?_ ?_|refine k4 ?_ ?_) <;> intro hb <;> (try rw [lM] at hb) <;> try (exfalso; omega)|refine aq rfl ?_|fail)
     exact PSub.tup ⟨PSub.agg ⟨PSub.refl _, PSub.nil 1, PSub.nil 1, trivial⟩, PSub.refl _, trivial⟩
 obtain ⟨k, rfl⟩ : ∃ k : Nat, n = k := ⟨n.toNat, by omega⟩
 have hk : k < s.converts.length := by omega
 rw [fwdR_at ha hk]
 have ht := allTwo_at ha hk
 have ht' := twoP_turn ht
 have hml := hw.nm _ (List.getElem_mem hk)
 obtain ⟨ka, hka, ea, _⟩ := wholeAt_in ht'.2.1
 have qt := turned_spec s.converts[k] (by omega) (fun m hm => by have := twoP_shift ht m hm; omega)
 have qp := rperform_spec s hs (turnC s.converts[k]) c ka hka ea hf (by simp only [turnC, List.length_map]; omega) (fun m hm => by have := twoP_shift ht' m hm; omega)
 show PSpec _ _ _ (encCE (perfR s (turnC s.converts[k]) c))
 obtain ⟨x, hx⟩ : ∃ x, x = perfR s (turnC s.converts[k]) c := ⟨_, rfl⟩
 rw [← hx] at qp ⊢
 refine PSpec.of_vc (fun Γ => more8 false Γ.P Γ.fx) (fun Γ => more8_ok) Try.func14 rfl Try.call14 (by simp) ?_
 rintro ⟨P, N, w0, X, β0, fx, y, hy, pk, df⟩ rfl rfl rfl hoff rfl; change y.on = false at hoff
 skip
 refine .inl ⟨_, qc, ?_⟩
 repeat' ((try conv => whnf); first|(first|refine k3 ?_ ?_|refine k4 ?_ ?_) <;> intro hb <;> (try rw [lM] at hb) <;> try (exfalso; omega)|fail)
 refine Wp.draw (more := more8 true _ _) more8_det more8_ok FOK.wide rfl (by decide +kernel) (by conv => lhs; reduce) ?_
 repeat' ((try conv => whnf); first|refine s5 nm nm ?_|fail)
 refine ⟨_, qt, ?_⟩
 repeat' ((try conv => whnf); first|refine aq rfl ?_|fail)
 refine ⟨_, qp, ?_⟩
 repeat' ((try conv => whnf); first|refine aq rfl ?_|fail)
 exact PSub.refl _
end Go.Proofs.Ytihbkbioafdhjaa
/- Versions: Along, both. Conditions: none. -/
namespace Go.Proofs.Ytihbkbioafdhjaa
open Go.Avc
def alS (s : Src) (r : Cl × Int) (e : Int) : Cl × Int := if r.2 = 0 then perfR s (dirC (decide (e % 2 = 1)) (s.converts.getD (e / 2).toNat zeroCv)) r.1 else r
def okE (s : Src) (e : Int) : Prop := 0 ≤ e ∧ e < 2 * (s.converts.length : Int)
instance (s : Src) (e : Int) : Decidable (okE s e) := by unfold okE; infer_instance
def alT (s : Src) (l : List Int) (c : Cl) (i : Nat) : Cl × Int := (l.take i).foldl (alS s) (c, 0)
def alR (s : Src) (l : List Int) (c : Cl) : Cl × Int := if allTwo s = true then (if l.all (fun e => decide (okE s e)) = true then alT s l c l.length else (zeroCl, 1)) else (zeroCl, 150)
theorem alT_next {s : Src} {l : List Int} {i : Nat} (h : i < l.length) (c : Cl) : alT s l c (i + 1) = alS s (alT s l c i) l[i] := by
 unfold alT
 rw [List.take_succ_eq_append_getElem h, List.foldl_append]
 rfl
theorem alF_bad {s : Src} : ∀ (l : List Int) (r : Cl × Int), r.2 ≠ 0 → l.foldl (alS s) r = r
 | [], r, _ => rfl
 | e :: l, r, h => by
   rw [List.foldl_cons]
   have : alS s r e = r := if_neg h
   rw [this]
   exact alF_bad l r h
theorem alT_bad {s : Src} {l : List Int} {c : Cl} {i : Nat} (hi : i ≤ l.length) (h : (alT s l c i).2 ≠ 0) : alT s l c l.length = alT s l c i := by
 have e : l = l.take i ++ l.drop i := (List.take_append_drop i l).symm
 unfold alT at h ⊢
 rw [List.take_length]
 conv => lhs; rw [e]
 rw [List.foldl_append]
 exact alF_bad _ _ h
theorem perfR_len {s : Src} {v : Cv} (h : twoP s v) {c : Cl} (hr : (perfR s v c).2 = 0) : (perfR s v c).1.fields.length = c.fields.length := by
 by_cases hv : validP s v.a c
 · rw [perfR_yes h hv]
   simp only [clOf, List.length_map, cvL, insAll_len, clL, List.length_zip]
   have := hv.2.1
   omega
 · rw [perfR_no hv] at hr; cases hr
theorem perfR_bad {s : Src} {v : Cv} {c : Cl} (hr : (perfR s v c).2 ≠ 0) : perfR s v c = (zeroCl, 150) := by
 unfold perfR at hr ⊢
 split
 · rename_i h; rw [if_pos h] at hr; exact absurd rfl hr
 · rfl
theorem alS_at {s : Src} {r : Cl × Int} {n : Nat} (hr : r.2 = 0) (hn : n / 2 < s.converts.length) : alS s r n = perfR s (dirC (n % 2 == 1) s.converts[n / 2]) r.1 := by
 unfold alS
 rw [if_pos hr]
 have e1 : ((n : Int) / 2).toNat = n / 2 := by omega
 have e2 : decide ((n : Int) % 2 = 1) = (n % 2 == 1) := by
   rcases Nat.mod_two_eq_zero_or_one n with h | h
   · rw [h, decide_eq_false (by omega)]; rfl
   · rw [h, decide_eq_true (by omega)]; rfl
 rw [e1, e2, getD_at hn]
theorem okE_all {s : Src} {l : List Int} (h : ∀ j (hj : j < l.length), j < l.length → okE s l[j]) : l.all (fun e => decide (okE s e)) = true := List.all_eq_true.2 fun e he => by
 obtain ⟨j, hj, rfl⟩ := List.getElem_of_mem he
 exact decide_eq_true (h j hj hj)
theorem okE_not {s : Src} {l : List Int} {i : Nat} (hi : i < l.length) (h : ¬ okE s l[i]) : ¬ l.all (fun e => decide (okE s e)) = true := fun ha => h (of_decide_eq_true (List.all_eq_true.1 ha _ (List.getElem_mem hi)))
theorem alT_len {s : Src} (ha : allTwo s = true) {l : List Int} {c : Cl} : ∀ {i : Nat}, i ≤ l.length → (∀ j (hj : j < l.length), j < i → okE s l[j]) → (alT s l c i).2 = 0 → (alT s l c i).1.fields.length = c.fields.length
 | 0, _, _, _ => by simp [alT]
 | i + 1, hi, ho, hr => by
   have hi' : i < l.length := by omega
   rw [alT_next hi'] at hr ⊢
   have ho' := ho i hi' (by omega)
   obtain ⟨n, hn⟩ : ∃ n : Nat, l[i] = n := ⟨l[i].toNat, by unfold okE at ho'; omega⟩
   rw [hn] at ho' hr ⊢
   have hn2 : n / 2 < s.converts.length := by unfold okE at ho'; omega
   by_cases h0 : (alT s l c i).2 = 0
   · rw [alS_at h0 hn2] at hr ⊢
     rw [perfR_len (dir_two (allTwo_at ha hn2) _) hr]
     exact alT_len ha (by omega) (fun j hj hji => ho j hj (by omega)) h0
   · have e : alS s (alT s l c i) n = alT s l c i := if_neg h0
     rw [e] at hr
     exact absurd hr h0
attribute [local irreducible] PSub Wp PSpec Le Need Both
theorem clone_spec (l : List Int) (hl : l.length ≤ 1000000) : PSpec Try.prog 33 [encIs l] (encIs l) := by
 have la : (l.map fun x => [PV.int x]).length = l.length := List.length_map ..
 refine PSpec.of_vc (fun Γ => more8 false Γ.P Γ.fx) (fun Γ => more8_ok) Try.func33 rfl Try.call33 (by simp) ?_
 rintro ⟨P, N, w0, X, β0, fx, y, hy, pk, df⟩ rfl rfl rfl hoff rfl; change y.on = false at hoff
 skip
 intro r hr
 repeat' ((try conv => whnf); first|refine k6 (fun hb => ?_) fun hb => ?_|refine aq rfl ?_|refine aq bd ?_|fail)
 · have h0 : l = [] := List.map_eq_nil_iff.1 (hr (by assumption))
   subst h0
   exact PSub.nil 1
 · exact PSub.of_eq (by unfold encIs; rw [List.drop_zero, List.nil_append, List.take_of_length_le (by simp)])
theorem along_spec (s : Src) (hs : s.sz) (hg : s.rg) (hw : s.few) (l : List Int) (hl : l.length ≤ 1000000) (c : Cl) (hf : c.fields.length ≤ 100) (hv : c.values.length ≤ 1000000) :
   PSpec Try.prog 20 [.agg (encSrc s), encIs l, .agg (encCl c)] (encCE (alR s l c)) := by
 have hlc := hw.nc
 have lC : (s.converts.map encCv).length = s.converts.length := List.length_map ..
 have lL : (l.map fun x => [PV.int x]).length = l.length := List.length_map ..
 have qc := check_spec s hs hg
 have q1 := clone_spec c.fields (by omega)
 have q2 := clone_spec c.values hv
 by_cases ha : allTwo s = true
 case neg =>
   rw [show alR s l c = (zeroCl, 150) from if_neg ha]
   rw [show chkE s = 150 from if_neg ha] at qc
   refine PSpec.of_vc (fun Γ => more8 false Γ.P Γ.fx) (fun Γ => more8_ok) Try.func20 rfl Try.call20 (by simp) ?_
   rintro ⟨P, N, w0, X, β0, fx, y, hy, pk, df⟩ rfl rfl rfl hoff rfl; change y.on = false at hoff
   skip
   refine .inl ⟨_, qc, ?_⟩
   repeat' ((try conv => whnf); first|refine aq rfl ?_|fail)
   exact PSub.tup ⟨PSub.agg ⟨PSub.refl _, PSub.nil 1, PSub.nil 1, trivial⟩, PSub.refl _, trivial⟩
 rw [show chkE s = 0 from if_pos ha] at qc
 have hR : alR s l c = if l.all (fun e => decide (okE s e)) = true then alT s l c l.length else (zeroCl, 1) := if_pos ha
 rw [hR]
 refine PSpec.of_vc (fun Γ => more8 false Γ.P Γ.fx) (fun Γ => more8_ok) Try.func20 rfl Try.call20 (by simp) ?_
 rintro ⟨P, N, w0, X, β0, fx, y, hy, pk, df⟩ rfl rfl rfl hoff rfl; change y.on = false at hoff
 skip
 refine .inl ⟨_, qc, ?_⟩
 skip
 refine Wp.loop (fun i : Nat => ⟨[(1, .pure (encIs l)), (3, .loc 3 0 0), (5, .loc 5 0 0), (6, .loc 6 0 0), (19, .pure (encIs l)), (20, .int l.length), (21, .int i)],
   [(3, some (.box (pures (encSrc s)))), (5, some (.box (pures (encCl c)))), (6, some (.box [.int 0, .pure (.val (.slice none 0 0)), .pure (.val (.slice none 0 0))]))], [3, 5, 6]⟩) (fun i => i ≤ l.length ∧ ∀ j (hj : j < l.length), j < i → okE s l[j]) (fun i => l.length - i) 0
   (Le.of ?_ ?_ rfl rfl rfl) ⟨by omega, fun j _ h => by omega⟩ ?_
 · (repeat' (first|exact trivial|refine aq ?_ ?_|exact oq|exact l1 bd|fail))
 · (repeat' (first|exact trivial|refine aq ?_ ?_|refine Exists.intro _ (aq rfl ?_)|exact oq|fail))
 intro i ⟨hi, ho⟩
 by_cases hi2 : i < l.length
 · by_cases hok : okE s l[i]
   · have hok' := hok
     unfold okE at hok'
     refine code_sound (more := more8 false _ _) more8_ok FOK.wide _ ?_
     repeat' ((try conv => whnf); first|(first|refine k3 ?_ ?_|refine k4 ?_ ?_) <;> intro hb <;> (try rw [lM] at hb) <;> try (exfalso; omega)|refine s4 nm ?_|refine s5 nm nm ?_|fail)
     refine ⟨i + 1, Le.of (by (repeat' (first|exact trivial|refine aq ?_ ?_|exact oq|fail))) (by (repeat' (first|exact trivial|refine aq ?_ ?_|refine Exists.intro _ (aq rfl ?_)|exact oq|fail))) rfl rfl rfl, ⟨by omega, fun j hj hji => ?_⟩, by omega⟩
     rcases Nat.lt_succ_iff_lt_or_eq.1 hji with hji | rfl
     · exact ho j hj hji
     · exact hok
   · rw [if_neg (okE_not hi2 hok)]
     unfold okE at hok
     by_cases h0 : l[i] < 0
     · refine code_sound (more := more8 false _ _) more8_ok FOK.wide _ ?_
       repeat' ((try conv => whnf); first|(first|refine k3 ?_ ?_|refine k4 ?_ ?_) <;> intro hb <;> (try rw [lM] at hb) <;> try (exfalso; omega)|refine aq rfl ?_|refine s5 nm nm ?_|fail)
       exact PSub.tup ⟨PSub.agg ⟨PSub.refl _, PSub.nil 1, PSub.nil 1, trivial⟩, PSub.refl _, trivial⟩
     · have h1 : 2 * (s.converts.length : Int) ≤ l[i] := by omega
       refine code_sound (more := more8 false _ _) more8_ok FOK.wide _ ?_
       repeat' ((try conv => whnf); first|(first|refine k3 ?_ ?_|refine k4 ?_ ?_) <;> intro hb <;> (try rw [lM] at hb) <;> try (exfalso; omega)|refine aq rfl ?_|refine s4 nm ?_|refine s5 nm nm ?_|fail)
       exact PSub.tup ⟨PSub.agg ⟨PSub.refl _, PSub.nil 1, PSub.nil 1, trivial⟩, PSub.refl _, trivial⟩
 · have e : i = l.length := by omega
   subst e
   rw [if_pos (okE_all ho)]
   refine code_sound (more := more8 false _ _) more8_ok FOK.wide _ ?_
   repeat' ((try conv => whnf); first|(first|refine k3 ?_ ?_|refine k4 ?_ ?_) <;> intro hb <;> (try rw [lM] at hb) <;> try (exfalso; omega)|fail)
   refine Wp.draw (more := more8 true _ _) more8_det more8_ok FOK.wide rfl (by decide +kernel) (by conv => lhs; reduce) ?_
   skip
   refine ⟨_, q1, ?_⟩
   repeat' ((try conv => whnf); first|refine aq rfl ?_|fail)
   refine ⟨_, q2, ?_⟩
   repeat' ((try conv => whnf); first|refine aq rfl ?_|fail)
   refine Wp.loop (fun i : Nat => ⟨[(3, .loc 3 0 0), (6, .loc 6 0 0), (46, .pure (encIs l)), (47, .int l.length), (48, .int i)],
     [(3, some (.box (pures (encSrc s)))), (6, some (.box (pures (encCl (alT s l c i).1))))], [3, 6]⟩) (fun i => i ≤ l.length ∧ (alT s l c i).2 = 0) (fun i => l.length - i) 0
     (Le.of ?_ ?_ rfl rfl rfl) ⟨by omega, rfl⟩ ?_
   · (repeat' (first|exact trivial|refine aq ?_ ?_|exact oq|exact l1 bd|fail))
   · (repeat' (first|exact trivial|refine aq ?_ ?_|refine Exists.intro _ (aq rfl ?_)|exact oq|fail))
   intro i ⟨hi, hr⟩
   by_cases hi2 : i < l.length
   · have hok := ho i hi2 hi2
     unfold okE at hok
     have hln := alT_len ha (c := c) (i := i) (by omega) (fun j hj _ => ho j hj hj) hr
     have hnx := alT_next (s := s) hi2 c
     obtain ⟨n, hn⟩ : ∃ n : Nat, l[i] = n := ⟨l[i].toNat, by omega⟩
     have hn2 : n / 2 < s.converts.length := by omega
     rw [hn, alS_at hr hn2] at hnx
     obtain ⟨ci, hci⟩ : ∃ ci, ci = (alT s l c i).1 := ⟨_, rfl⟩
     rw [← hci] at hnx hln ⊢
     have d1 : IntKind.i64.wrap (l[i].tdiv 2) = ((n / 2 : Nat) : Int) := by rw [hn, IntKind.wrap_i64, show ((n : Int).tdiv 2) = ((n / 2 : Nat) : Int) from rfl]; omega
     have d2 : l[i].tmod 2 = ((n % 2 : Nat) : Int) := by rw [hn]; rfl
     have qp := perform_spec s hs _ (allTwo_at ha hn2) (n % 2 == 1) ci (by omega) (by have := hw.nm _ (List.getElem_mem hn2); omega)
     obtain ⟨x, hx⟩ : ∃ x, x = perfR s (dirC (n % 2 == 1) s.converts[n / 2]) ci := ⟨_, rfl⟩
     rw [← hx] at hnx qp
     rcases Nat.mod_two_eq_zero_or_one n with h0 | h0
     · rw [h0] at d2 qp
       by_cases hx0 : x.2 = 0
       · refine code_sound (more := more8 false _ _) more8_ok FOK.wide _ ?_
         repeat' ((try conv => whnf); first|(first|refine k3 ?_ ?_|refine k4 ?_ ?_) <;> intro hb <;> (try rw [lM] at hb) <;> try (exfalso; omega)|refine s5 nm nm ?_|fail)
         refine Wp.draw (more := more8 true _ _) more8_det more8_ok FOK.wide rfl (by decide +kernel) (by conv => lhs; reduce) ?_
         repeat' ((try conv => whnf); first|refine aq bd ?_|fail)
         refine ⟨_, d1, ?_⟩
         repeat' ((try conv => whnf); first|refine s5 nm nm ?_|refine aq bd ?_|fail)
         refine ⟨_, d2, ?_⟩
         skip
         refine ⟨_, qp, ?_⟩
         repeat' ((try conv => whnf); first|(first|refine k3 ?_ ?_|refine k4 ?_ ?_) <;> intro hb <;> (try rw [lM] at hb) <;> try (exfalso; omega)|refine aq rfl ?_|refine s4 nm ?_|fail)
         refine ⟨i + 1, Le.of (by (repeat' (first|exact trivial|refine aq ?_ ?_|exact oq|fail))) ?_ rfl rfl rfl, ⟨by omega, by rw [hnx]; exact hx0⟩, by omega⟩
         rw [hnx]
         (repeat' (first|exact trivial|refine aq ?_ ?_|refine Exists.intro _ (aq rfl ?_)|exact oq|fail))
       · have e1 : alT s l c l.length = x := (alT_bad (i := i + 1) (by omega) (by rw [hnx]; exact hx0)).trans hnx
         have e2 : x = (zeroCl, 150) := by rw [hx]; exact perfR_bad (by rw [← hx]; exact hx0)
         rw [e1]
         refine code_sound (more := more8 false _ _) more8_ok FOK.wide _ ?_
         repeat' ((try conv => whnf); first|(first|refine k3 ?_ ?_|refine k4 ?_ ?_) <;> intro hb <;> (try rw [lM] at hb) <;> try (exfalso; omega)|refine s5 nm nm ?_|fail)
         refine Wp.draw (more := more8 true _ _) more8_det more8_ok FOK.wide rfl (by decide +kernel) (by conv => lhs; reduce) ?_
         repeat' ((try conv => whnf); first|refine aq bd ?_|fail)
         refine ⟨_, d1, ?_⟩
         repeat' ((try conv => whnf); first|refine s5 nm nm ?_|refine aq bd ?_|fail)
         refine ⟨_, d2, ?_⟩
         skip
         refine ⟨_, qp, ?_⟩
         repeat' ((try conv => whnf); first|(first|refine k3 ?_ ?_|refine k4 ?_ ?_) <;> intro hb <;> (try rw [lM] at hb) <;> try (exfalso; omega)|refine aq rfl ?_|fail)
         rw [e2]
         exact PSub.tup ⟨PSub.agg ⟨PSub.refl _, PSub.nil 1, PSub.nil 1, trivial⟩, PSub.refl _, trivial⟩
     · rw [h0] at d2 qp
       by_cases hx0 : x.2 = 0
       · refine code_sound (more := more8 false _ _) more8_ok FOK.wide _ ?_
         repeat' ((try conv => whnf); first|(first|refine k3 ?_ ?_|refine k4 ?_ ?_) <;> intro hb <;> (try rw [lM] at hb) <;> try (exfalso; omega)|refine s5 nm nm ?_|fail)
         refine Wp.draw (more := more8 true _ _) more8_det more8_ok FOK.wide rfl (by decide +kernel) (by conv => lhs; reduce) ?_
         repeat' ((try conv => whnf); first|refine aq bd ?_|fail)
         refine ⟨_, d1, ?_⟩
         repeat' ((try conv => whnf); first|refine s5 nm nm ?_|refine aq bd ?_|fail)
         refine ⟨_, d2, ?_⟩
         skip
         refine ⟨_, qp, ?_⟩
         repeat' ((try conv => whnf); first|(first|refine k3 ?_ ?_|refine k4 ?_ ?_) <;> intro hb <;> (try rw [lM] at hb) <;> try (exfalso; omega)|refine aq rfl ?_|refine s4 nm ?_|fail)
         refine ⟨i + 1, Le.of (by (repeat' (first|exact trivial|refine aq ?_ ?_|exact oq|fail))) ?_ rfl rfl rfl, ⟨by omega, by rw [hnx]; exact hx0⟩, by omega⟩
         rw [hnx]
         (repeat' (first|exact trivial|refine aq ?_ ?_|refine Exists.intro _ (aq rfl ?_)|exact oq|fail))
       · have e1 : alT s l c l.length = x := (alT_bad (i := i + 1) (by omega) (by rw [hnx]; exact hx0)).trans hnx
         have e2 : x = (zeroCl, 150) := by rw [hx]; exact perfR_bad (by rw [← hx]; exact hx0)
         rw [e1]
         refine code_sound (more := more8 false _ _) more8_ok FOK.wide _ ?_
         repeat' ((try conv => whnf); first|(first|refine k3 ?_ ?_|refine k4 ?_ ?_) <;> intro hb <;> (try rw [lM] at hb) <;> try (exfalso; omega)|refine s5 nm nm ?_|fail)
         refine Wp.draw (more := more8 true _ _) more8_det more8_ok FOK.wide rfl (by decide +kernel) (by conv => lhs; reduce) ?_
         repeat' ((try conv => whnf); first|refine aq bd ?_|fail)
         refine ⟨_, d1, ?_⟩
         repeat' ((try conv => whnf); first|refine s5 nm nm ?_|refine aq bd ?_|fail)
         refine ⟨_, d2, ?_⟩
         skip
         refine ⟨_, qp, ?_⟩
         repeat' ((try conv => whnf); first|(first|refine k3 ?_ ?_|refine k4 ?_ ?_) <;> intro hb <;> (try rw [lM] at hb) <;> try (exfalso; omega)|refine aq rfl ?_|fail)
         rw [e2]
         exact PSub.tup ⟨PSub.agg ⟨PSub.refl _, PSub.nil 1, PSub.nil 1, trivial⟩, PSub.refl _, trivial⟩
   · have e : i = l.length := by omega
     subst e
     refine code_sound (more := more8 false _ _) more8_ok FOK.wide _ ?_
     repeat' ((try conv => whnf); first|(first|refine k3 ?_ ?_|refine k4 ?_ ?_) <;> intro hb <;> (try rw [lM] at hb) <;> try (exfalso; omega)|refine aq rfl ?_|fail)
     refine PSub.of_eq ?_
     unfold encCE
     rw [hr]
     rfl
end Go.Proofs.Ytihbkbioafdhjaa
/- Versions: the reference goes along a way. Conditions: none. -/
namespace Go.Proofs.Ytihbkbioafdhjaa
open Go.Avc
attribute [local irreducible] PSub Wp PSpec Le Need Both
theorem rAlong_spec (s : Src) (hs : s.sz) (hw : s.few) (l : List Int) (hl : l.length ≤ 1000000) (c : Cl) (hf : c.fields.length ≤ 100) :
   PSpec Try.prog 21 [.agg (encSrc s), encIs l, .agg (encCl c)] (encCE (alR s l c)) := by
 have hlc := hw.nc
 have lC : (s.converts.map encCv).length = s.converts.length := List.length_map ..
 have lL : (l.map fun x => [PV.int x]).length = l.length := List.length_map ..
 have qc := rcheck_spec s hs
 by_cases ha : allTwo s = true
 case neg =>
   rw [show alR s l c = (zeroCl, 150) from if_neg ha]
   rw [show chkE s = 150 from if_neg ha] at qc
   refine PSpec.of_vc (fun Γ => more8 false Γ.P Γ.fx) (fun Γ => more8_ok) Try.func21 rfl Try.call21 (by simp) ?_
   rintro ⟨P, N, w0, X, β0, fx, y, hy, pk, df⟩ rfl rfl rfl hoff rfl; change y.on = false at hoff
   skip
   refine .inl ⟨_, qc, ?_⟩
   repeat' ((try conv => whnf); first|refine aq rfl ?_|fail)
   exact PSub.tup ⟨PSub.agg ⟨PSub.refl _, PSub.nil 1, PSub.nil 1, trivial⟩, PSub.refl _, trivial⟩
 rw [show chkE s = 0 from if_pos ha] at qc
 have hR : alR s l c = if l.all (fun e => decide (okE s e)) = true then alT s l c l.length else (zeroCl, 1) := if_pos ha
 rw [hR]
 refine PSpec.of_vc (fun Γ => more8 false Γ.P Γ.fx) (fun Γ => more8_ok) Try.func21 rfl Try.call21 (by simp) ?_
 rintro ⟨P, N, w0, X, β0, fx, y, hy, pk, df⟩ rfl rfl rfl hoff rfl; change y.on = false at hoff
 skip
 refine .inl ⟨_, qc, ?_⟩
 skip
 refine Wp.loop (fun i : Nat => ⟨[(1, .pure (encIs l)), (3, .loc 3 0 0), (5, .loc 5 0 0), (6, .loc 6 0 0), (9, .int i)],
   [(3, some (.box (pures (encSrc s)))), (5, some (.box (pures (encCl c)))), (6, some (.box [.int 0, .pure (.val (.slice none 0 0)), .pure (.val (.slice none 0 0))]))], [3, 5, 6]⟩) (fun i => i ≤ l.length ∧ ∀ j (hj : j < l.length), j < i → okE s l[j]) (fun i => l.length - i) 0
   (Le.of ?_ ?_ rfl rfl rfl) ⟨by omega, fun j _ h => by omega⟩ ?_
 · (repeat' (first|exact trivial|refine aq ?_ ?_|exact oq|fail))
 · (repeat' (first|exact trivial|refine aq ?_ ?_|refine Exists.intro _ (aq rfl ?_)|exact oq|fail))
 intro i ⟨hi, ho⟩
 by_cases hi2 : i < l.length
 · by_cases hok : okE s l[i]
   · have hok' := hok
     unfold okE at hok'
     refine code_sound (more := more8 false _ _) more8_ok FOK.wide _ ?_
     repeat' ((try conv => whnf); first|(first|refine k3 ?_ ?_|refine k4 ?_ ?_) <;> intro hb <;> (try rw [lM] at hb) <;> try (exfalso; omega)|fail)
     refine Wp.draw (more := more8 true _ _) more8_det more8_ok FOK.wide rfl (by decide +kernel) (by conv => lhs; reduce) ?_
     repeat' ((try conv => whnf); first|(first|refine k3 ?_ ?_|refine k4 ?_ ?_) <;> intro hb <;> (try rw [lM] at hb) <;> try (exfalso; omega)|refine s4 nm ?_|refine s5 nm nm ?_|fail)
     refine ⟨i + 1, Le.of (by (repeat' (first|exact trivial|refine aq ?_ ?_|exact oq|fail))) (by (repeat' (first|exact trivial|refine aq ?_ ?_|refine Exists.intro _ (aq rfl ?_)|exact oq|fail))) rfl rfl rfl, ⟨by omega, fun j hj hji => ?_⟩, by omega⟩
     rcases Nat.lt_succ_iff_lt_or_eq.1 hji with hji | rfl
     · exact ho j hj hji
     · exact hok
   · rw [if_neg (okE_not hi2 hok)]
     unfold okE at hok
     by_cases h0 : l[i] < 0
     · refine code_sound (more := more8 false _ _) more8_ok FOK.wide _ ?_
       repeat' ((try conv => whnf); first|(first|refine k3 ?_ ?_|refine k4 ?_ ?_) <;> intro hb <;> (try rw [lM] at hb) <;> try (exfalso; omega)|fail)
       refine Wp.draw (more := more8 true _ _) more8_det more8_ok FOK.wide rfl (by decide +kernel) (by conv => lhs; reduce) ?_
       repeat' ((try conv => whnf); first|(first|refine k3 ?_ ?_|refine k4 ?_ ?_) <;> intro hb <;> (try rw [lM] at hb) <;> try (exfalso; omega)|refine aq rfl ?_|refine s5 nm nm ?_|fail)
       exact PSub.tup ⟨PSub.agg ⟨PSub.refl _, PSub.nil 1, PSub.nil 1, trivial⟩, PSub.refl _, trivial⟩
     · have h1 : 2 * (s.converts.length : Int) ≤ l[i] := by omega
       refine code_sound (more := more8 false _ _) more8_ok FOK.wide _ ?_
       repeat' ((try conv => whnf); first|(first|refine k3 ?_ ?_|refine k4 ?_ ?_) <;> intro hb <;> (try rw [lM] at hb) <;> try (exfalso; omega)|fail)
       refine Wp.draw (more := more8 true _ _) more8_det more8_ok FOK.wide rfl (by decide +kernel) (by conv => lhs; reduce) ?_
       repeat' ((try conv => whnf); first|(first|refine k3 ?_ ?_|refine k4 ?_ ?_) <;> intro hb <;> (try rw [lM] at hb) <;> try (exfalso; omega)|refine aq rfl ?_|refine s4 nm ?_|refine s5 nm nm ?_|fail)
       exact PSub.tup ⟨PSub.agg ⟨PSub.refl _, PSub.nil 1, PSub.nil 1, trivial⟩, PSub.refl _, trivial⟩
 · have e : i = l.length := by omega
   subst e
   rw [if_pos (okE_all ho)]
   refine code_sound (more := more8 false _ _) more8_ok FOK.wide _ ?_
   repeat' ((try conv => whnf); first|(first|refine k3 ?_ ?_|refine k4 ?_ ?_) <;> intro hb <;> (try rw [lM] at hb) <;> try (exfalso; omega)|fail)
   refine Wp.loop (fun i : Nat => ⟨[(1, .pure (encIs l)), (3, .loc 3 0 0), (5, .loc 5 0 0), (6, .loc 6 0 0), (10, .int i)],
     [(3, some (.box (pures (encSrc s)))), (5, some (.box (pures (encCl (alT s l c i).1)))), (6, some (.box [.int 0, .pure (.val (.slice none 0 0)), .pure (.val (.slice none 0 0))]))], [3, 5, 6]⟩) (fun i => i ≤ l.length ∧ (alT s l c i).2 = 0) (fun i => l.length - i) 0
     (Le.of ?_ ?_ rfl rfl rfl) ⟨by omega, rfl⟩ ?_
   · (repeat' (first|exact trivial|refine aq ?_ ?_|exact oq|fail))
   · (repeat' (first|exact trivial|refine aq ?_ ?_|refine Exists.intro _ (aq rfl ?_)|exact oq|fail))
   intro i ⟨hi, hr⟩
   by_cases hi2 : i < l.length
   · have hok := ho i hi2 hi2
     unfold okE at hok
     have hln := alT_len ha (c := c) (i := i) (by omega) (fun j hj _ => ho j hj hj) hr
     have hnx := alT_next (s := s) hi2 c
     obtain ⟨n, hn⟩ : ∃ n : Nat, l[i] = n := ⟨l[i].toNat, by omega⟩
     have hn2 : n / 2 < s.converts.length := by omega
     rw [hn, alS_at hr hn2] at hnx
     obtain ⟨ci, hci⟩ : ∃ ci, ci = (alT s l c i).1 := ⟨_, rfl⟩
     rw [← hci] at hnx hln ⊢
     have d1 : IntKind.i64.wrap (l[i].tdiv 2) = ((n / 2 : Nat) : Int) := by rw [hn, IntKind.wrap_i64, show ((n : Int).tdiv 2) = ((n / 2 : Nat) : Int) from rfl]; omega
     have d2 : l[i].tmod 2 = ((n % 2 : Nat) : Int) := by rw [hn]; rfl
     have ht := allTwo_at ha hn2
     have ht' := twoP_turn ht
     have hml := hw.nm _ (List.getElem_mem hn2)
     rcases Nat.mod_two_eq_zero_or_one n with h0 | h0
     · obtain ⟨ka, hka, ea, _⟩ := wholeAt_in ht.2.1
       have qp := rperform_spec s hs s.converts[n / 2] ci ka hka ea (by omega) (by omega) (fun m hm => by have := twoP_shift ht m hm; omega)
       rw [h0] at d2 hnx
       rw [show dirC (0 == 1) s.converts[n / 2] = s.converts[n / 2] from rfl] at hnx
       obtain ⟨x, hx⟩ : ∃ x, x = perfR s s.converts[n / 2] ci := ⟨_, rfl⟩
       rw [← hx] at hnx qp
       by_cases hx0 : x.2 = 0
       · refine code_sound (more := more8 false _ _) more8_ok FOK.wide _ ?_
         repeat' ((try conv => whnf); first|(first|refine k3 ?_ ?_|refine k4 ?_ ?_) <;> intro hb <;> (try rw [lM] at hb) <;> try (exfalso; omega)|fail)
         refine Wp.draw (more := more8 true _ _) more8_det more8_ok FOK.wide rfl (by decide +kernel) (by conv => lhs; reduce) ?_
         repeat' ((try conv => whnf); first|refine s5 nm nm ?_|refine aq bd ?_|fail)
         refine ⟨_, d1, ?_⟩
         repeat' ((try conv => whnf); first|refine aq rfl ?_|refine s5 nm nm ?_|refine aq bd ?_|fail)
         refine ⟨_, d2, ?_⟩
         skip
         refine .inl ⟨_, qp, ?_⟩
         repeat' ((try conv => whnf); first|(first|refine k3 ?_ ?_|refine k4 ?_ ?_) <;> intro hb <;> (try rw [lM] at hb) <;> try (exfalso; omega)|refine aq rfl ?_|refine s4 nm ?_|fail)
         refine ⟨i + 1, Le.of (by (repeat' (first|exact trivial|refine aq ?_ ?_|exact oq|fail))) ?_ rfl rfl rfl, ⟨by omega, by rw [hnx]; exact hx0⟩, by omega⟩
         rw [hnx]
         (repeat' (first|exact trivial|refine aq ?_ ?_|refine Exists.intro _ (aq rfl ?_)|exact oq|fail))
       · have e1 : alT s l c l.length = x := (alT_bad (i := i + 1) (by omega) (by rw [hnx]; exact hx0)).trans hnx
         have e2 : x = (zeroCl, 150) := by rw [hx]; exact perfR_bad (by rw [← hx]; exact hx0)
         rw [e1]
         refine code_sound (more := more8 false _ _) more8_ok FOK.wide _ ?_
         repeat' ((try conv => whnf); first|(first|refine k3 ?_ ?_|refine k4 ?_ ?_) <;> intro hb <;> (try rw [lM] at hb) <;> try (exfalso; omega)|fail)
         refine Wp.draw (more := more8 true _ _) more8_det more8_ok FOK.wide rfl (by decide +kernel) (by conv => lhs; reduce) ?_
         repeat' ((try conv => whnf); first|refine s5 nm nm ?_|refine aq bd ?_|fail)
         refine ⟨_, d1, ?_⟩
         repeat' ((try conv => whnf); first|refine aq rfl ?_|refine s5 nm nm ?_|refine aq bd ?_|fail)
         refine ⟨_, d2, ?_⟩
         skip
         refine .inl ⟨_, qp, ?_⟩
         repeat' ((try conv => whnf); first|(first|refine k3 ?_ ?_|refine k4 ?_ ?_) <;> intro hb <;> (try rw [lM] at hb) <;> try (exfalso; omega)|refine aq rfl ?_|fail)
         rw [e2]
         exact PSub.tup ⟨PSub.agg ⟨PSub.refl _, PSub.nil 1, PSub.nil 1, trivial⟩, PSub.refl _, trivial⟩
     · obtain ⟨ka, hka, ea, _⟩ := wholeAt_in ht'.2.1
       have qt := turned_spec s.converts[n / 2] (by omega) (fun m hm => by have := twoP_shift ht m hm; omega)
       have qp := rperform_spec s hs (turnC s.converts[n / 2]) ci ka hka ea (by omega) (by simp only [turnC, List.length_map]; omega) (fun m hm => by have := twoP_shift ht' m hm; omega)
       rw [h0] at d2 hnx
       rw [show dirC (1 == 1) s.converts[n / 2] = turnC s.converts[n / 2] from rfl] at hnx
       obtain ⟨x, hx⟩ : ∃ x, x = perfR s (turnC s.converts[n / 2]) ci := ⟨_, rfl⟩
       rw [← hx] at hnx qp
       by_cases hx0 : x.2 = 0
       · refine code_sound (more := more8 false _ _) more8_ok FOK.wide _ ?_
         repeat' ((try conv => whnf); first|(first|refine k3 ?_ ?_|refine k4 ?_ ?_) <;> intro hb <;> (try rw [lM] at hb) <;> try (exfalso; omega)|fail)
         refine Wp.draw (more := more8 true _ _) more8_det more8_ok FOK.wide rfl (by decide +kernel) (by conv => lhs; reduce) ?_
         repeat' ((try conv => whnf); first|refine s5 nm nm ?_|refine aq bd ?_|fail)
         refine ⟨_, d1, ?_⟩
         repeat' ((try conv => whnf); first|refine aq rfl ?_|refine s5 nm nm ?_|refine aq bd ?_|fail)
         refine ⟨_, d2, ?_⟩
         skip
         refine .inl ⟨_, qt, ?_⟩
         repeat' ((try conv => whnf); first|refine aq rfl ?_|fail)
         refine .inl ⟨_, qp, ?_⟩
         repeat' ((try conv => whnf); first|(first|refine k3 ?_ ?_|refine k4 ?_ ?_) <;> intro hb <;> (try rw [lM] at hb) <;> try (exfalso; omega)|refine aq rfl ?_|refine s4 nm ?_|fail)
         refine ⟨i + 1, Le.of (by (repeat' (first|exact trivial|refine aq ?_ ?_|exact oq|fail))) ?_ rfl rfl rfl, ⟨by omega, by rw [hnx]; exact hx0⟩, by omega⟩
         rw [hnx]
         (repeat' (first|exact trivial|refine aq ?_ ?_|refine Exists.intro _ (aq rfl ?_)|exact oq|fail))
       · have e1 : alT s l c l.length = x := (alT_bad (i := i + 1) (by omega) (by rw [hnx]; exact hx0)).trans hnx
         have e2 : x = (zeroCl, 150) := by rw [hx]; exact perfR_bad (by rw [← hx]; exact hx0)
         rw [e1]
         refine code_sound (more := more8 false _ _) more8_ok FOK.wide _ ?_
         repeat' ((try conv => whnf); first|(first|refine k3 ?_ ?_|refine k4 ?_ ?_) <;> intro hb <;> (try rw [lM] at hb) <;> try (exfalso; omega)|fail)
         refine Wp.draw (more := more8 true _ _) more8_det more8_ok FOK.wide rfl (by decide +kernel) (by conv => lhs; reduce) ?_
         repeat' ((try conv => whnf); first|refine s5 nm nm ?_|refine aq bd ?_|fail)
         refine ⟨_, d1, ?_⟩
         repeat' ((try conv => whnf); first|refine aq rfl ?_|refine s5 nm nm ?_|refine aq bd ?_|fail)
         refine ⟨_, d2, ?_⟩
         skip
         refine .inl ⟨_, qt, ?_⟩
         repeat' ((try conv => whnf); first|refine aq rfl ?_|fail)
         refine .inl ⟨_, qp, ?_⟩
         repeat' ((try conv => whnf); first|(first|refine k3 ?_ ?_|refine k4 ?_ ?_) <;> intro hb <;> (try rw [lM] at hb) <;> try (exfalso; omega)|refine aq rfl ?_|fail)
         rw [e2]
         exact PSub.tup ⟨PSub.agg ⟨PSub.refl _, PSub.nil 1, PSub.nil 1, trivial⟩, PSub.refl _, trivial⟩
   · have e : i = l.length := by omega
     subst e
     refine code_sound (more := more8 false _ _) more8_ok FOK.wide _ ?_
     repeat' ((try conv => whnf); first|(first|refine k3 ?_ ?_|refine k4 ?_ ?_) <;> intro hb <;> (try rw [lM] at hb) <;> try (exfalso; omega)|refine aq rfl ?_|fail)
     refine PSub.of_eq ?_
     unfold encCE
     rw [hr]
     rfl
end Go.Proofs.Ytihbkbioafdhjaa
/- Versions: a list turned round. Conditions: none. -/
namespace Go.Proofs.Ytihbkbioafdhjaa
open Go.Avc
def rvA (l : List Int) (i k : Nat) : Int := if k < i ∨ l.length - i ≤ k then l.getD (l.length - 1 - k) 0 else l.getD k 0
def rvR (l : List Int) (i : Nat) : List (List PV) := (List.range l.length).map fun k => [PV.int (rvA l i k)]
theorem rvR_len (l : List Int) (i : Nat) : (rvR l i).length = l.length := by simp [rvR]
theorem rvR_at (l : List Int) (i k : Nat) (h : k < l.length) : (rvR l i)[k]? = some [PV.int (rvA l i k)] := by simp [rvR, List.getElem?_map, List.getElem?_range h]
theorem rvR_zero (l : List Int) : rvR l 0 = ints l := by
 unfold rvR ints
 refine List.ext_getElem (by simp) fun k h1 h2 => ?_
 simp at h1 h2
 simp only [List.getElem_map, List.getElem_range, rvA]
 rw [if_neg (by omega), getD_at h1]
theorem rvR_end (l : List Int) {i : Nat} (h : l.length ≤ 2 * i + 1) : rvR l i = ints l.reverse := by
 unfold rvR ints
 refine List.ext_getElem (by simp) fun k h1 h2 => ?_
 simp at h1 h2
 simp only [List.getElem_map, List.getElem_range, rvA, List.getElem_reverse]
 rw [getD_at (by omega : l.length - 1 - k < l.length), getD_at h1]
 split
 · rfl
 · have e : l.length - 1 - k = k := by omega
   simp only [e]
theorem rvR_next (l : List Int) {i : Nat} (h : i < l.length - 1 - i) : rvR l (i + 1) = ((rvR l i).set i [PV.int (l.getD (l.length - 1 - i) 0)]).set (l.length - 1 - i) [PV.int (l.getD i 0)] := by
 refine List.ext_getElem (by simp [rvR]) fun k h1 h2 => ?_
 simp [rvR] at h1
 rw [List.getElem_set, List.getElem_set]
 simp only [rvR, List.getElem_map, List.getElem_range, rvA]
 by_cases e1 : l.length - 1 - i = k
 · subst e1
   rw [if_pos rfl, if_pos (by omega)]
   have : l.length - 1 - (l.length - 1 - i) = i := by omega
   rw [this]
 · rw [if_neg e1]
   by_cases e2 : i = k
   · subst e2
     rw [if_pos rfl, if_pos (by omega)]
   · rw [if_neg e2]
     by_cases h3 : k < i ∨ l.length - i ≤ k
     · rw [if_pos h3, if_pos (by omega)]
     · rw [if_neg h3, if_neg (by omega)]
attribute [local irreducible] PSub Wp PSpec Le Need Both
theorem reverse_spec (l : List Int) (hl : l.length ≤ 1000000) : GSpec Try.prog 31 1 ⟨numE 0 [.lsl 100 0 l.length], [(100, some (.row 1 (ints l)))], [100]⟩ [100] 0 ⟨[], [(100, some (.row 1 (ints l.reverse)))], [100]⟩ := by
 have lI : (ints l).length = l.length := by simp [ints]
 refine GSpec.of_vc (fun Γ => more8 false Γ.P Γ.fx) (fun Γ => more8_ok) Try.func31 rfl Try.call31 (by decide) ?_
 rintro ⟨P, N, w0, X, β0, fx, y, hy, pk, df⟩ rfl rfl rfl hoff rfl; change y.on = false at hoff
 repeat' ((try conv => whnf); first|refine s4 nm ?_|fail)
 refine Wp.loop (fun i : Nat => ⟨[(0, .lsl 100 0 l.length), (2, .int i), (3, .int ((l.length : Int) - 1 - i))], [(100, some (.row 1 (rvR l i)))], [100]⟩) (fun i => 2 * i ≤ l.length) (fun i => l.length - i) 0 (Le.of ?_ ?_ rfl rfl rfl) (by omega) ?_
 · (repeat' (first|exact trivial|refine aq ?_ ?_|exact oq|exact l1 bd|fail))
 · rw [rvR_zero]
   (repeat' (first|exact trivial|exact rfl|refine aq ?_ ?_|fail))
 intro i hi
 have lR := rvR_len l i
 by_cases hi2 : i < l.length - 1 - i
 · have a1 := rvR_at l i i (by omega)
   have a2 := rvR_at l i (l.length - 1 - i) (by omega)
   have e2 : ((l.length : Int) - 1 - i).toNat = l.length - 1 - i := by omega
   have b1 : rvA l i i = l.getD i 0 := if_neg (by omega)
   have b2 : rvA l i (l.length - 1 - i) = l.getD (l.length - 1 - i) 0 := if_neg (by omega)
   rw [b1] at a1
   rw [b2] at a2
   rw [← e2] at a2
   refine code_sound (more := more8 false _ _) more8_ok FOK.wide _ ?_
   repeat' ((try conv => whnf); first|(first|refine k3 ?_ ?_|refine k4 ?_ ?_) <;> intro hb <;> (try rw [lM] at hb) <;> try (exfalso; omega)|fail)
   refine Wp.draw (more := more8 true _ _) more8_det more8_ok FOK.wide rfl (by decide +kernel) (by conv => lhs; reduce) ?_
   repeat' ((try conv => whnf); first|refine aq bd ?_|fail)
   refine ⟨_, _, by rw [Nat.zero_add]; exact a2, rfl, ?_⟩
   repeat' ((try conv => whnf); first|refine aq bd ?_|fail)
   refine ⟨_, _, by rw [Nat.zero_add, Int.toNat_natCast]; exact a1, rfl, ?_⟩
   repeat' ((try conv => whnf); first|refine aq rfl ?_|refine s4 nm ?_|refine aq bd ?_|refine .inl ⟨rfl, rfl, bd, rfl, rfl, ?_⟩|fail)
   have hnx := rvR_next l hi2
   have e3 : ((i : Nat) : Int).toNat = i := Int.toNat_natCast i
   refine ⟨i + 1, Le.of ?_ ?_ rfl rfl rfl, by omega, by omega⟩
   · (repeat' (first|exact trivial|refine aq ?_ ?_|exact oq|exact l1 bd|fail))
     all_goals (refine SubA.int ?_; omega)
   · (repeat' (first|exact trivial|refine aq ?_ ?_|fail))
     all_goals (refine bsRow ?_; rw [hnx, e2, e3, Nat.zero_add, Nat.zero_add])
 · refine code_sound (more := more8 false _ _) more8_ok FOK.wide _ ?_
   repeat' ((try conv => whnf); first|(first|refine k3 ?_ ?_|refine k4 ?_ ?_) <;> intro hb <;> (try rw [lM] at hb) <;> try (exfalso; omega)|fail)
   refine Le.of ?_ ?_ rfl rfl rfl
   · (repeat' (first|exact trivial|fail))
   · rw [rvR_end l (by omega)]
     (repeat' (first|exact trivial|exact rfl|refine aq ?_ ?_|fail))
end Go.Proofs.Ytihbkbioafdhjaa
