/- Codec: values; formed, depth. Conditions: none. -/
import Derived.Test.YtjfjpnefohbobaaGreatDoorWd
import Derived.Test.YtjfjpnefohbobaaGreatDoorRows
set_option linter.unusedSimpArgs false
set_option linter.unusedVariables false
set_option maxRecDepth 20000
set_option maxHeartbeats 4000000
namespace Go.Proofs.YtjfjpnefohbobaaGreatDoor
open Go.Avc
inductive Val where
 | mk (kind num : Int) (str : ByteArray) (kids : List Val)
def Val.kind : Val → Int
 | .mk k _ _ _ => k
def Val.num : Val → Int
 | .mk _ n _ _ => n
def Val.str : Val → ByteArray
 | .mk _ _ s _ => s
def Val.kids : Val → List Val
 | .mk _ _ _ l => l
mutual
def encK : Val → List (List PV)
 | .mk _ _ _ l => encKL l
def encKL : List Val → List (List PV)
 | [] => []
 | x :: l => [.int x.kind, .int x.num, .val (.string x.str), .sl 4 (encK x)] :: encKL l
end
def encV (v : Val) : List PV := [.int v.kind, .int v.num, .val (.string v.str), .sl 4 (encK v)]
theorem encKL_eq : ∀ l : List Val, encKL l = l.map encV
 | [] => rfl
 | x :: l => by simp only [encKL, List.map_cons, encKL_eq l]; rfl
theorem encK_eq (v : Val) : encK v = v.kids.map encV := by
 cases v
 exact encKL_eq _
theorem encV_eq (v : Val) : PV.agg (encV v) = .agg [.int v.kind, .int v.num, .val (.string v.str), .sl 4 (v.kids.map encV)] := by
 show PV.agg [.int v.kind, .int v.num, .val (.string v.str), .sl 4 (encK v)] = _
 rw [encK_eq]
theorem Val.ind {Q : Val → Prop} (h : ∀ v, (∀ x ∈ v.kids, Q x) → Q v) (v : Val) : Q v := h v fun x _ => Val.ind h x
termination_by SizeOf.sizeOf v
decreasing_by
 rename_i hx
 cases v with
 | mk k n s l =>
   have h1 := List.sizeOf_lt_of_mem hx
   simp only [Val.kids] at h1
   simp only [Val.mk.sizeOf_spec]
   omega
mutual
def Val.formed : Val → Bool
 | .mk k n s l => if k = 1 then decide (s = ⟨#[]⟩) && decide (l.length = 0) else if k = 2 then decide (n = 0) && decide (l.length = 0) else if k = 3 then decide (n = 0) && decide (s = ⟨#[]⟩) && formedL l else false
def formedL : List Val → Bool
 | [] => true
 | x :: l => x.formed && formedL l
def Val.depth : Val → Nat
 | .mk k _ _ l => if k = 3 then depthL l + 1 else 0
def depthL : List Val → Nat
 | [] => 0
 | x :: l => max x.depth (depthL l)
end
theorem formedL_eq : ∀ l : List Val, formedL l = l.all Val.formed
 | [] => rfl
 | x :: l => by simp [formedL, formedL_eq l]
theorem depthL_snoc : ∀ (l : List Val) (x : Val), depthL (l ++ [x]) = max (depthL l) x.depth
 | [], x => by simp [depthL]
 | y :: l, x => by simp [depthL, depthL_snoc l x]
theorem Val.formed_eq (v : Val) : v.formed = if v.kind = 1 then decide (v.str = ⟨#[]⟩) && decide (v.kids.length = 0) else if v.kind = 2 then decide (v.num = 0) && decide (v.kids.length = 0) else if v.kind = 3 then decide (v.num = 0) && decide (v.str = ⟨#[]⟩) && v.kids.all Val.formed else false := by
 cases v with
 | mk k n s l => rw [← formedL_eq]; rfl
theorem Val.depth_eq (v : Val) : v.depth = if v.kind = 3 then depthL v.kids + 1 else 0 := by
 cases v; rfl
theorem kids_bd {v : Val} (h : bdL [.agg [.int v.kind, .int v.num, .val (.string v.str), .sl 4 (v.kids.map encV)]]) : v.kids.length ≤ 9223372036854775807 := by
 simp only [bdL, PV.bd, List.length_map] at h
 exact h.1.2.2.2.1.1
theorem take_all {f : Val → Bool} {l : List Val} {k : Nat} (h : k < l.length) : (l.take (k + 1)).all f = ((l.take k).all f && f l[k]) := by
 rw [List.take_succ_eq_append_getElem h, List.all_append]; simp
theorem all_at {f : Val → Bool} {l : List Val} {k : Nat} (h : k < l.length) (hf : f l[k] = false) : l.all f = false := by
 rw [List.all_eq_false]; exact ⟨_, List.getElem_mem h, by simp [hf]⟩
attribute [local irreducible] PSub Wp PSpec Le Need Both
attribute [local irreducible] Val.kind Val.num Val.str Val.kids encK Val.formed Val.depth
theorem formed_spec : ∀ v : Val, PSpec Tryz.prog 127 [.agg (encV v)] (.bool v.formed) := by
 refine Val.ind fun v ih => ?_
 rw [encV_eq]
 refine PSpec.bd Tryz.call127 fun hbd => ?_
 have hbd := kids_bd hbd
 have hf := v.formed_eq
 obtain ⟨f, hff⟩ : ∃ f, f = v.formed := ⟨_, rfl⟩
 rw [← hff] at hf ⊢
 refine PSpec.of_vc (fun Γ => more5 false Γ.P Γ.fx) (fun Γ => more5_ok) Tryz.func127 rfl Tryz.call127 (by simp) ?_
 rintro ⟨P, N, w0, X, β0, fx, y, hy, pk, df⟩ rfl rfl rfl hoff rfl; change y.on = false at hoff
 repeat' ((try conv => whnf); first|(first|refine k3 ?_ ?_|refine k4 ?_ ?_) <;> intro hb <;> (try rw [lM] at hb) <;> try (exfalso; omega)|fail)
 rotate_left 4
 · refine Wp.loop (fun k : Nat => ⟨[(40, .pure (.sl 4 (v.kids.map encV))), (41, .int v.kids.length), (42, .int k)], [], []⟩) (fun k => k ≤ v.kids.length ∧ (v.kids.take k).all Val.formed = true) (fun k => v.kids.length - k) 0 (Le.of ?_ ?_ rfl rfl rfl) ⟨by omega, by simp⟩ ?_
   · (repeat' (first|exact trivial|refine aq ?_ ?_|exact oq|exact l1 bd|fail))
   · (repeat' (first|exact trivial|fail))
   rintro k ⟨hk, hall⟩
   by_cases hk2 : k < v.kids.length
   · have q := ih _ (List.getElem_mem hk2)
     have ht := take_all (f := Val.formed) hk2
     have ha := all_at (f := Val.formed) hk2
     obtain ⟨b, hb0⟩ : ∃ b, b = v.kids[k].formed := ⟨_, rfl⟩
     rw [← hb0] at q ht ha
     refine code_sound (more := more5 false _ _) more5_ok FOK.wide _ ?_
     repeat' ((try conv => whnf); first|(first|refine k3 ?_ ?_|refine k4 ?_ ?_) <;> intro hb <;> (try rw [lM] at hb) <;> try (exfalso; omega)|refine aq rfl ?_|refine s5 nm nm ?_|fail)
     refine .inl ⟨_, q, ?_⟩
     repeat' ((try conv => whnf); first|refine k5 (fun hb => ?_) fun hb => ?_|refine s4 nm ?_|fail)
     · exact ⟨k + 1, Le.of (by (repeat' (first|exact trivial|refine aq ?_ ?_|exact oq|fail))) (by (repeat' (first|exact trivial|fail))) rfl rfl rfl, ⟨by omega, by rw [ht, hall]; simp_all⟩, by omega⟩
     · exact PSub.val_bool (by rw [hf]; simp_all)
   · have ek : k = v.kids.length := by omega
     subst ek
     rw [List.take_length] at hall
     refine code_sound (more := more5 false _ _) more5_ok FOK.wide _ ?_
     repeat' ((try conv => whnf); first|(first|refine k3 ?_ ?_|refine k4 ?_ ?_) <;> intro hb <;> (try rw [lM] at hb) <;> try (exfalso; omega)|fail)
     exact PSub.val_bool (by rw [hf]; simp_all)
 all_goals exact PSub.val_bool (by rw [hf]; simp_all)
theorem depthL_get {l : List Val} {k : Nat} (h : k < l.length) : depthL (l.take (k + 1)) = max (depthL (l.take k)) l[k].depth := by
 rw [List.take_succ_eq_append_getElem h, depthL_snoc]
theorem depthL_le {l : List Val} {k : Nat} : depthL (l.take k) ≤ depthL l := by
 conv => rhs; rw [← List.take_append_drop k l]
 generalize l.take k = a
 generalize l.drop k = b
 induction a with
 | nil => simp [depthL]
 | cons x a ih => simp only [List.cons_append, depthL]; omega
theorem depth_spec : ∀ v : Val, v.depth ≤ 1000000 → PSpec Tryz.prog 128 [.agg (encV v)] (.int v.depth) := by
 refine Val.ind fun v ih => ?_
 intro hd
 rw [encV_eq]
 refine PSpec.bd Tryz.call128 fun hbd => ?_
 have hbd := kids_bd hbd
 have hf := v.depth_eq
 obtain ⟨f, hff⟩ : ∃ f, f = v.depth := ⟨_, rfl⟩
 rw [← hff] at hf hd ⊢
 refine PSpec.of_vc (fun Γ => more5 false Γ.P Γ.fx) (fun Γ => more5_ok) Tryz.func128 rfl Tryz.call128 (by simp) ?_
 rintro ⟨P, N, w0, X, β0, fx, y, hy, pk, df⟩ rfl rfl rfl hoff rfl; change y.on = false at hoff
 repeat' ((try conv => whnf); first|(first|refine k3 ?_ ?_|refine k4 ?_ ?_) <;> intro hb <;> (try rw [lM] at hb) <;> try (exfalso; omega)|fail)
 rotate_left
 · exact PSub.val_int (by rw [hf]; simp_all)
 rw [if_pos (by assumption)] at hf
 refine Wp.loop (fun k : Nat => ⟨[(3, .int (depthL (v.kids.take k) : Nat)), (10, .pure (.sl 4 (v.kids.map encV))), (11, .int v.kids.length), (12, .int k)], [], []⟩) (fun k => k ≤ v.kids.length) (fun k => v.kids.length - k) 0 (Le.of ?_ ?_ rfl rfl rfl) (by omega) ?_
 · (repeat' (first|exact trivial|refine aq ?_ ?_|exact oq|exact l1 bd|fail))
 · (repeat' (first|exact trivial|fail))
 intro k hk
 by_cases hk2 : k < v.kids.length
 · have ht := depthL_get hk2
   have hle := depthL_le (l := v.kids) (k := k + 1)
   have q := ih _ (List.getElem_mem hk2) (by omega)
   refine code_sound (more := more5 false _ _) more5_ok FOK.wide _ ?_
   repeat' ((try conv => whnf); first|(first|refine k3 ?_ ?_|refine k4 ?_ ?_) <;> intro hb <;> (try rw [lM] at hb) <;> try (exfalso; omega)|refine aq rfl ?_|refine s5 nm nm ?_|fail)
   refine .inl ⟨_, q, ?_⟩
   repeat' ((try conv => whnf); first|refine s4 nm ?_|fail)
   refine ⟨k + 1, Le.of ?_ (by (repeat' (first|exact trivial|fail))) rfl rfl rfl, by omega, by omega⟩
   (repeat' (first|exact trivial|refine aq ?_ ?_|exact oq|exact l1 bd|fail))
   all_goals exact SubA.int (by rw [ht]; omega)
 · have ek : k = v.kids.length := by omega
   subst ek
   rw [List.take_length]
   refine code_sound (more := more5 false _ _) more5_ok FOK.wide _ ?_
   repeat' ((try conv => whnf); first|(first|refine k3 ?_ ?_|refine k4 ?_ ?_) <;> intro hb <;> (try rw [lM] at hb) <;> try (exfalso; omega)|refine s4 nm ?_|fail)
   exact PSub.val_int (by rw [hf]; omega)
end Go.Proofs.YtjfjpnefohbobaaGreatDoor
/- Codec: the reference's Formed, Depth; Check. Conditions: none. -/
namespace Go.Proofs.YtjfjpnefohbobaaGreatDoor
open Go.Avc
def Val.check (v : Val) : Int := if v.formed then (if 16 < v.depth then 2 else 0) else 1
attribute [local irreducible] PSub Wp PSpec Le Need Both
attribute [local irreducible] Val.kind Val.num Val.str Val.kids encK Val.formed Val.depth
theorem rformed_spec : ∀ v : Val, PSpec Tryz.prog 135 [.agg (encV v)] (.bool v.formed) := by
 refine Val.ind fun v ih => ?_
 rw [encV_eq]
 refine PSpec.bd Tryz.call135 fun hbd => ?_
 have hbd := kids_bd hbd
 have hf := v.formed_eq
 obtain ⟨f, hff⟩ : ∃ f, f = v.formed := ⟨_, rfl⟩
 rw [← hff] at hf ⊢
 refine PSpec.of_vc (fun Γ => more5 false Γ.P Γ.fx) (fun Γ => more5_ok) Tryz.func135 rfl Tryz.call135 (by simp) ?_
 rintro ⟨P, N, w0, X, β0, fx, y, hy, pk, df⟩ rfl rfl rfl hoff rfl; change y.on = false at hoff
 repeat' ((try conv => whnf); first|(first|refine k3 ?_ ?_|refine k4 ?_ ?_) <;> intro hb <;> (try rw [lM] at hb) <;> try (exfalso; omega)|fail)
 rotate_left 4
 · refine Wp.loop (fun k : Nat => ⟨[(1, .loc 1 0 0), (3, .int k)], [(1, some (.box [.int v.kind, .int v.num, .pure (.val (.string v.str)), .pure (.sl 4 (v.kids.map encV))]))], [1]⟩) (fun k => k ≤ v.kids.length ∧ (v.kids.take k).all Val.formed = true) (fun k => v.kids.length - k) 0 (Le.of ?_ ?_ rfl rfl rfl) ⟨by omega, by simp⟩ ?_
   · (repeat' (first|exact trivial|refine aq ?_ ?_|exact oq|fail))
   · (repeat' (first|exact trivial|refine aq ?_ ?_|refine Exists.intro _ (aq rfl ?_)|exact oq|fail))
   rintro k ⟨hk, hall⟩
   by_cases hk2 : k < v.kids.length
   · have q := ih _ (List.getElem_mem hk2)
     have ht := take_all (f := Val.formed) hk2
     have ha := all_at (f := Val.formed) hk2
     obtain ⟨b, hb0⟩ : ∃ b, b = v.kids[k].formed := ⟨_, rfl⟩
     rw [← hb0] at q ht ha
     refine code_sound (more := more5 false _ _) more5_ok FOK.wide _ ?_
     repeat' ((try conv => whnf); first|(first|refine k3 ?_ ?_|refine k4 ?_ ?_) <;> intro hb <;> (try rw [lM] at hb) <;> try (exfalso; omega)|refine s5 nm nm ?_|fail)
     refine .inl ⟨_, q, ?_⟩
     repeat' ((try conv => whnf); first|refine k5 (fun hb => ?_) fun hb => ?_|refine s4 nm ?_|fail)
     · exact ⟨k + 1, Le.of (by (repeat' (first|exact trivial|refine aq ?_ ?_|exact oq|fail))) (by (repeat' (first|exact trivial|refine aq ?_ ?_|refine Exists.intro _ (aq rfl ?_)|exact oq|fail))) rfl rfl rfl, ⟨by omega, by rw [ht, hall]; simp_all⟩, by omega⟩
     · exact PSub.val_bool (by rw [hf]; simp_all)
   · have ek : k = v.kids.length := by omega
     subst ek
     rw [List.take_length] at hall
     refine code_sound (more := more5 false _ _) more5_ok FOK.wide _ ?_
     repeat' ((try conv => whnf); first|(first|refine k3 ?_ ?_|refine k4 ?_ ?_) <;> intro hb <;> (try rw [lM] at hb) <;> try (exfalso; omega)|fail)
     all_goals exact PSub.val_bool (by rw [hf]; simp_all)
 all_goals exact PSub.val_bool (by rw [hf]; simp_all)
theorem rdepth_spec : ∀ v : Val, v.depth ≤ 1000000 → PSpec Tryz.prog 136 [.agg (encV v)] (.int v.depth) := by
 refine Val.ind fun v ih => ?_
 intro hd
 rw [encV_eq]
 refine PSpec.bd Tryz.call136 fun hbd => ?_
 have hbd := kids_bd hbd
 have hf := v.depth_eq
 obtain ⟨f, hff⟩ : ∃ f, f = v.depth := ⟨_, rfl⟩
 rw [← hff] at hf hd ⊢
 refine PSpec.of_vc (fun Γ => more5 false Γ.P Γ.fx) (fun Γ => more5_ok) Tryz.func136 rfl Tryz.call136 (by simp) ?_
 rintro ⟨P, N, w0, X, β0, fx, y, hy, pk, df⟩ rfl rfl rfl hoff rfl; change y.on = false at hoff
 repeat' ((try conv => whnf); first|(first|refine k3 ?_ ?_|refine k4 ?_ ?_) <;> intro hb <;> (try rw [lM] at hb) <;> try (exfalso; omega)|fail)
 rotate_left
 · exact PSub.val_int (by rw [hf]; simp_all)
 rw [if_pos (by assumption)] at hf
 refine Wp.loop (fun k : Nat => ⟨[(1, .loc 1 0 0), (3, .int (depthL (v.kids.take k) : Nat)), (4, .int k)], [(1, some (.box [.int v.kind, .int v.num, .pure (.val (.string v.str)), .pure (.sl 4 (v.kids.map encV))]))], [1]⟩) (fun k => k ≤ v.kids.length) (fun k => v.kids.length - k) 0 (Le.of ?_ ?_ rfl rfl rfl) (by omega) ?_
 · (repeat' (first|exact trivial|refine aq ?_ ?_|exact oq|fail))
 · (repeat' (first|exact trivial|refine aq ?_ ?_|refine Exists.intro _ (aq rfl ?_)|exact oq|fail))
 intro k hk
 by_cases hk2 : k < v.kids.length
 · have ht := depthL_get hk2
   have hle := depthL_le (l := v.kids) (k := k + 1)
   have q := ih _ (List.getElem_mem hk2) (by omega)
   refine code_sound (more := more5 false _ _) more5_ok FOK.wide _ ?_
   repeat' ((try conv => whnf); first|(first|refine k3 ?_ ?_|refine k4 ?_ ?_) <;> intro hb <;> (try rw [lM] at hb) <;> try (exfalso; omega)|refine s5 nm nm ?_|fail)
   refine .inl ⟨_, q, ?_⟩
   repeat' ((try conv => whnf); first|refine s4 nm ?_|fail)
   refine ⟨k + 1, Le.of ?_ (by (repeat' (first|exact trivial|refine aq ?_ ?_|refine Exists.intro _ (aq rfl ?_)|exact oq|fail))) rfl rfl rfl, by omega, by omega⟩
   (repeat' (first|exact trivial|refine aq ?_ ?_|exact oq|exact l1 bd|fail))
   all_goals exact SubA.int (by rw [ht]; omega)
 · have ek : k = v.kids.length := by omega
   subst ek
   rw [List.take_length]
   refine code_sound (more := more5 false _ _) more5_ok FOK.wide _ ?_
   repeat' ((try conv => whnf); first|(first|refine k3 ?_ ?_|refine k4 ?_ ?_) <;> intro hb <;> (try rw [lM] at hb) <;> try (exfalso; omega)|refine s4 nm ?_|fail)
   exact PSub.val_int (by rw [hf]; omega)
theorem check_spec (v : Val) (hd : v.depth ≤ 1000000) : PSpec Tryz.prog 100 [.agg (encV v)] (.int v.check) := by
   have q1 := formed_spec v
   have q2 := depth_spec v hd
   have hc : v.check = if v.formed then (if 16 < v.depth then 2 else 0) else 1 := rfl
   obtain ⟨f, hf⟩ : ∃ f, f = v.formed := ⟨_, rfl⟩
   obtain ⟨d, hd⟩ : ∃ d, d = v.depth := ⟨_, rfl⟩
   rw [← hf] at q1 hc
   rw [← hd] at q2 hc
   rw [hc]
   refine PSpec.of_vc (fun Γ => more5 false Γ.P Γ.fx) (fun Γ => more5_ok) Tryz.func100 rfl Tryz.call100 (by simp) ?_
   rintro ⟨P, N, w0, X, β0, fx, y, hy, pk, df⟩ rfl rfl rfl hoff rfl; change y.on = false at hoff
   skip
   refine .inl ⟨_, q1, ?_⟩
   repeat' ((try conv => whnf); first|refine k5 (fun hb => ?_) fun hb => ?_|fail)
   · refine .inl ⟨_, q2, ?_⟩
     repeat' ((try conv => whnf); first|(first|refine k3 ?_ ?_|refine k4 ?_ ?_) <;> intro hb <;> (try rw [lM] at hb) <;> try (exfalso; omega)|fail)
     all_goals exact PSub.val_int (by simp_all <;> omega)
   · exact PSub.val_int (by simp_all)
theorem rcheck_spec (v : Val) (hd : v.depth ≤ 1000000) : PSpec Tryz.prog 111 [.agg (encV v)] (.int v.check) := by
   have q1 := rformed_spec v
   have q2 := rdepth_spec v hd
   have hc : v.check = if v.formed then (if 16 < v.depth then 2 else 0) else 1 := rfl
   obtain ⟨f, hf⟩ : ∃ f, f = v.formed := ⟨_, rfl⟩
   obtain ⟨d, hd⟩ : ∃ d, d = v.depth := ⟨_, rfl⟩
   rw [← hf] at q1 hc
   rw [← hd] at q2 hc
   rw [hc]
   refine PSpec.of_vc (fun Γ => more5 false Γ.P Γ.fx) (fun Γ => more5_ok) Tryz.func111 rfl Tryz.call111 (by simp) ?_
   rintro ⟨P, N, w0, X, β0, fx, y, hy, pk, df⟩ rfl rfl rfl hoff rfl; change y.on = false at hoff
   skip
   refine .inl ⟨_, q1, ?_⟩
   repeat' ((try conv => whnf); first|refine k5 (fun hb => ?_) fun hb => ?_|fail)
   · refine .inl ⟨_, q2, ?_⟩
     repeat' ((try conv => whnf); first|(first|refine k3 ?_ ?_|refine k4 ?_ ?_) <;> intro hb <;> (try rw [lM] at hb) <;> try (exfalso; omega)|fail)
     all_goals exact PSub.val_int (by simp_all <;> omega)
   · exact PSub.val_int (by simp_all)
end Go.Proofs.YtjfjpnefohbobaaGreatDoor
/- Codec: Same; the reference's count, Few; few. Conditions: none. -/
namespace Go.Proofs.YtjfjpnefohbobaaGreatDoor
open Go.Avc
theorem Val.ext {a b : Val} (h1 : a.kind = b.kind) (h2 : a.num = b.num) (h3 : a.str = b.str) (h4 : a.kids = b.kids) : a = b := by
 cases a; cases b
 simp only [Val.kind, Val.num, Val.str, Val.kids] at h1 h2 h3 h4
 subst h1; subst h2; subst h3; subst h4; rfl
mutual
def Val.same : Val → Val → Bool
 | .mk k n s l, b => decide (k = b.kind) && decide (n = b.num) && decide (s = b.str) && sameL l b.kids
def sameL : List Val → List Val → Bool
 | [], [] => true
 | x :: l, y :: m => x.same y && sameL l m
 | [], _ :: _ => false
 | _ :: _, [] => false
end
attribute [local irreducible] PSub Wp PSpec Le Need Both
attribute [local irreducible] Val.kind Val.num Val.str Val.kids encK Val.formed Val.depth Val.same
end Go.Proofs.YtjfjpnefohbobaaGreatDoor
/- Codec: the reference's count, Few; few. Conditions: none. -/
namespace Go.Proofs.YtjfjpnefohbobaaGreatDoor
open Go.Avc
mutual
def Val.fits : Val → Prop
 | .mk _ n s l => s.size ≤ 140737488355328 ∧ (-9223372036854775808 ≤ n ∧ n ≤ 9223372036854775807) ∧ fitsL l
def fitsL : List Val → Prop
 | [] => True
 | x :: l => x.fits ∧ fitsL l
end
theorem fitsL_iff : ∀ l : List Val, fitsL l ↔ ∀ x ∈ l, x.fits
 | [] => by simp [fitsL]
 | x :: l => by simp [fitsL, fitsL_iff l]
def Val.inR (v : Val) : Prop := -9223372036854775808 ≤ v.num ∧ v.num ≤ 9223372036854775807
theorem Val.fits_iff (v : Val) : v.fits ↔ v.str.size ≤ 140737488355328 ∧ v.inR ∧ ∀ x ∈ v.kids, x.fits := by
 cases v with
 | mk k n s l => rw [show (Val.mk k n s l).kids = l from rfl, ← fitsL_iff]; rfl
def cntL (f : Val → Nat) : List Val → Nat → Nat
 | [], n => n
 | x :: l, n => if n ≤ 1000 then cntL f l (n + f x) else n
attribute [local irreducible] PSub Wp PSpec Le Need Both
attribute [local irreducible] Val.kind Val.num Val.str Val.kids encK Val.fits cntL
end Go.Proofs.YtjfjpnefohbobaaGreatDoor
/- Codec: numerals. Conditions: none. -/
namespace Go.Proofs.YtjfjpnefohbobaaGreatDoor
open Go.Avc
abbrev rowB (l : List UInt8) : Option Blk := some (.row 1 (l.map fun b => [.val (.int .u8 b.toNat)]))
def encB (l : List UInt8) : PV := .sl 1 (l.map fun b => [.val (.int .u8 b.toNat)])
def numL (n : Nat) : List UInt8 := if h : n < 128 then [UInt8.ofNat n] else UInt8.ofNat (n % 128 + 128) :: numL (n / 128)
termination_by n
decreasing_by omega
def zz (n : Int) : Nat := if 0 ≤ n then 2 * n.toNat else 2 * (-(n + 1)).toNat + 1
theorem numL_small {n : Nat} (h : n < 128) : numL n = [UInt8.ofNat n] := by rw [numL, dif_pos h]
theorem numL_big {n : Nat} (h : 128 ≤ n) : numL n = UInt8.ofNat (n % 128 + 128) :: numL (n / 128) := by rw [numL, dif_neg (by omega)]
theorem numL_len : ∀ (k n : Nat), n < 128 ^ (k + 1) → (numL n).length ≤ k + 1 ∧ 1 ≤ (numL n).length
 | 0, n, h => by rw [numL_small (by simpa using h)]; simp
 | k + 1, n, h => by
   by_cases hn : n < 128
   · rw [numL_small hn]; simp
   · rw [numL_big (by omega)]
     have := numL_len k (n / 128) (by rw [Nat.pow_succ] at h; omega)
     simp; omega
theorem numL_10 {n : Nat} (h : n < 18446744073709551616) : (numL n).length ≤ 10 ∧ 1 ≤ (numL n).length := numL_len 9 n (Nat.lt_of_lt_of_le h (by decide))
theorem and127 {n : Nat} (h : n < 18446744073709551616) : bits .and .u64 (n : Int) 127 = ((n % 128 : Nat) : Int) := by
 have := (bits_nat .u64 64 (by decide) wraps_u64 n 127 h (by decide)).1
 rw [show ((127 : Nat) : Int) = 127 from rfl] at this
 rw [this, show (127 : Nat) = 2 ^ 7 - 1 from rfl, Nat.and_two_pow_sub_one_eq_mod]
theorem or128 {n : Nat} (h : n < 128) : bits .or .u8 (n : Int) 128 = ((n + 128 : Nat) : Int) := by
 have h1 := (bits_nat .u8 8 (by decide) (fun n h0 h1 => by rw [IntKind.wrap_u8]; omega) n 128 (by omega) (by decide)).2
 rw [show ((128 : Nat) : Int) = 128 from rfl] at h1
 have h2 := Nat.two_pow_add_eq_or_of_lt (i := 7) (b := n) (by omega) 1
 rw [h1, Nat.or_comm, show (128 : Nat) = 2 ^ 7 * 1 from rfl, ← h2]
 omega
theorem byte_nat {n : Nat} (h : n < 256) : ((n : Nat) : Int) = (UInt8.ofNat n).toNat := by
 rw [UInt8.toNat_ofNat_of_lt' (by show n < 256; omega)]
attribute [local irreducible] PSub Wp PSpec Le Need Both
theorem numeral_own : ∀ (u : Nat) (l : List UInt8), u < 18446744073709551616 → l.length ≤ 1000000 → GSpec Tryz.prog 130 2 ⟨[(0, .lsl 100 0 l.length), (1, .pure (.val (.int .u64 u)))], [(100, rowB l)], [100]⟩ [] 1
   ⟨[(0, .lsl 20 0 (l ++ numL u).length)], [(20, rowB (l ++ numL u))], [20]⟩ := by
 intro u l hu hl
 refine GSpec.of_vc (fun Γ => more5 false Γ.P Γ.fx) (fun Γ => more5_ok) Tryz.func130 rfl Tryz.call130 (by decide) ?_
 rintro ⟨P, N, w0, X, β0, fx, y, hy, pk, df⟩ rfl rfl rfl hoff rfl; change y.on = false at hoff
 skip
 have h10 := numL_10 hu
 refine Wp.loop (fun x : Nat × List UInt8 => ⟨[(0, .lsl 100 0 x.2.length), (1, .pure (.val (.int .u64 x.1)))], [(100, rowB x.2)], [100]⟩) (fun x => x.1 < 18446744073709551616 ∧ x.2 ++ numL x.1 = l ++ numL u) (fun x => x.1) (u, l) (Le.of ?_ ?_ rfl rfl rfl) ⟨hu, rfl⟩ ?_
 · (repeat' (first|exact trivial|refine aq ?_ ?_|exact oq|fail))
 · (repeat' (first|exact trivial|exact rfl|refine aq ?_ ?_|fail))
 rintro ⟨v, m⟩ ⟨hv, hm⟩
 dsimp only at hv hm ⊢
 have hml : m.length ≤ l.length + 10 := by
   have := congrArg List.length hm
   simp only [List.length_append] at this
   omega
 by_cases hb : v < 128
 · rw [numL_small hb] at hm
   refine code_sound (more := more5 false _ _) more5_ok FOK.wide _ ?_
   repeat' ((try conv => whnf); first|(first|refine k3 ?_ ?_|refine k4 ?_ ?_) <;> intro hb <;> (try rw [lM] at hb) <;> try (exfalso; omega)|fail)
   refine ⟨((UInt8.ofNat v).toNat : Int), by rw [← byte_nat (by omega), IntKind.wrap_u8]; omega, ?_⟩
   repeat' ((try conv => whnf); first|refine aq bd ?_|fail)
   rw [← hm]
   exact Le.of ⟨SubA.lsl (by simp), trivial⟩ ⟨rowEq (by simp), trivial⟩ rfl rfl rfl
 · rw [numL_big (by omega)] at hm
   refine code_sound (more := more5 false _ _) more5_ok FOK.wide _ ?_
   repeat' ((try conv => whnf); first|(first|refine k3 ?_ ?_|refine k4 ?_ ?_) <;> intro hb <;> (try rw [lM] at hb) <;> try (exfalso; omega)|fail)
   refine ⟨_, and127 hv, ?_⟩
   skip
   refine ⟨((v % 128 : Nat) : Int), by rw [IntKind.wrap_u8]; omega, ?_⟩
   skip
   refine ⟨((UInt8.ofNat (v % 128 + 128)).toNat : Int), by rw [← byte_nat (by omega)]; exact or128 (by omega), ?_⟩
   repeat' ((try conv => whnf); first|refine aq bd ?_|fail)
   refine ⟨_, shr_nat v 7 64 (by decide), ?_⟩
   skip
   refine ⟨(v / 2 ^ 7, m ++ [UInt8.ofNat (v % 128 + 128)]), Le.map [(100, 13)] ⟨SubA.lsl (by simp), Or.inl rfl, trivial⟩ ⟨rowEq (by simp), trivial⟩ rfl rfl rfl rfl, ⟨by simp only; omega, by rw [← hm]; simp⟩, by simp only; omega⟩
theorem zz_lt {n : Int} (h : -9223372036854775808 ≤ n ∧ n ≤ 9223372036854775807) : zz n < 18446744073709551616 := by unfold zz; split <;> omega
theorem xor_ones {a : Nat} (h : a < 18446744073709551616) : a ^^^ 18446744073709551615 = 18446744073709551615 - a := by
 apply Nat.eq_of_testBit_eq
 intro i
 have h1 := Nat.testBit_two_pow_sub_succ (n := 64) (x := a) h i
 have h2 := Nat.testBit_two_pow_sub_succ (n := 64) (x := 0) (by decide) i
 rw [show 18446744073709551615 - a = 2 ^ 64 - (a + 1) from by omega, h1, Nat.testBit_xor, show (18446744073709551615 : Nat) = 2 ^ 64 - (0 + 1) from rfl, h2]
 by_cases hi : i < 64
 · simp [hi]
 · have := Nat.testBit_lt_two_pow (x := a) (i := i) (Nat.lt_of_lt_of_le h ((Nat.pow_le_pow_right (by decide) (by omega) : 2 ^ 64 ≤ 2 ^ i)))
   simp [hi, this]
theorem shl1_u64 (a : Nat) : IntKind.u64.wrap ((a : Int) * 2 ^ min (Int.toNat 1) IntKind.u64.bits) = ((2 * a % 18446744073709551616 : Nat) : Int) := by
 rw [wrap_u64, show min (Int.toNat 1) IntKind.u64.bits = 1 from by decide]; omega
theorem sign63 (n : Int) (h : -9223372036854775808 ≤ n ∧ n ≤ 9223372036854775807) : n.fdiv (2 ^ min (Int.toNat 63) IntKind.i64.bits) = if 0 ≤ n then 0 else -1 := by
 rw [show min (Int.toNat 63) IntKind.i64.bits = 63 from by decide, Int.fdiv_eq_ediv_of_nonneg _ (by decide), show (2 : Int) ^ 63 = 9223372036854775808 from by decide]
 split <;> omega
theorem unsigned_spec (n : Int) (h : -9223372036854775808 ≤ n ∧ n ≤ 9223372036854775807) : PSpec Tryz.prog 131 [.int n] (.val (.int .u64 (zz n : Nat))) := by
 refine PSpec.of_vc (fun Γ => more5 false Γ.P Γ.fx) (fun Γ => more5_ok) Tryz.func131 rfl Tryz.call131 (by simp) ?_
 rintro ⟨P, N, w0, X, β0, fx, y, hy, pk, df⟩ rfl rfl rfl hoff rfl; change y.on = false at hoff
 skip
 by_cases h0 : 0 ≤ n
 · have hz : zz n = 2 * n.toNat := by unfold zz; rw [if_pos h0]
   refine ⟨((n.toNat : Nat) : Int), by rw [wrap_u64]; omega, ?_⟩
   repeat' ((try conv => whnf); first|refine aq bd ?_|fail)
   refine ⟨_, shl1_u64 _, ?_⟩
   repeat' ((try conv => whnf); first|refine aq bd ?_|fail)
   refine ⟨0, by rw [sign63 n h, if_pos h0], ?_⟩
   skip
   refine ⟨((0 : Nat) : Int), by rw [wrap_u64]; rfl, ?_⟩
   skip
   refine ⟨((zz n : Nat) : Int), by rw [xor_u64 (by omega) (by decide), Nat.xor_zero]; omega, ?_⟩
   skip
   exact PSub.refl _
 · have hz : zz n = 2 * (-(n + 1)).toNat + 1 := by unfold zz; rw [if_neg h0]
   refine ⟨(((n + 18446744073709551616).toNat : Nat) : Int), by rw [wrap_u64]; omega, ?_⟩
   repeat' ((try conv => whnf); first|refine aq bd ?_|fail)
   refine ⟨_, shl1_u64 _, ?_⟩
   repeat' ((try conv => whnf); first|refine aq bd ?_|fail)
   refine ⟨-1, by rw [sign63 n h, if_neg h0], ?_⟩
   skip
   refine ⟨((18446744073709551615 : Nat) : Int), by rw [wrap_u64]; rfl, ?_⟩
   skip
   refine ⟨((zz n : Nat) : Int), by rw [xor_u64 (by omega) (by decide), xor_ones (by omega)]; omega, ?_⟩
   skip
   exact PSub.refl _
end Go.Proofs.YtjfjpnefohbobaaGreatDoor
/- Codec: how the arguments of the laws open. Conditions: none. -/
namespace Go.Proofs.YtjfjpnefohbobaaGreatDoor
open Go.Avc
theorem own : ownKnob Tryz.prog.godebug = none := by kernel_rfl
theorem laidOut : laidOutB Tryz.prog = true := by kernel_rfl
theorem byte_of {n : Int} (h : IntKind.u8.has n) : ∃ b : UInt8, n = b.toNat := by
 have h1 : (0 : Int) ≤ n := h.1
 have h2 : n ≤ 255 := h.2
 refine ⟨UInt8.ofNat n.toNat, ?_⟩
 rw [UInt8.toNat_ofNat_of_lt' (by show n.toNat < 256; omega)]
 omega
theorem bytesOf_byte : Tryz.prog.bytesOf 5 = 1 := by kernel_rfl
theorem op_byte : Opn Tryz.prog 5 (fun ps => ∃ b : UInt8, ps = [.val (.int .u8 b.toNat)]) := (Opn.int Tryz.underlying5).mono fun _ ⟨_, h, hn⟩ => by
 obtain ⟨b, rfl⟩ := byte_of hn
 exact ⟨b, h⟩
theorem op_bytes : Opn Tryz.prog 33 (fun ps => ∃ bs : List UInt8, ps = [encB bs] ∧ bs.length ≤ 140737488355328) :=
 (Opn.slice (n := 1) Tryz.underlying33 (by kernel_rfl) Nat.one_pos op_byte).mono fun _ ⟨rows, h, hr, hl⟩ => by
   obtain ⟨bs, rfl, _⟩ := rows_map (f := fun b : UInt8 => [PV.val (.int .u8 b.toNat)]) (R := fun _ => True) (fun r h => by obtain ⟨b, hb⟩ := hr r h; exact ⟨b, hb, trivial⟩)
   rw [bytesOf_byte, Nat.mul_one, List.length_map] at hl
   exact ⟨bs, h, Nat.le_trans hl (by decide)⟩
theorem op_int : Opn Tryz.prog 3 (fun ps => ∃ n : Int, ps = [.int n] ∧ IntKind.i64.has n) := Opn.int Tryz.underlying3
end Go.Proofs.YtjfjpnefohbobaaGreatDoor
