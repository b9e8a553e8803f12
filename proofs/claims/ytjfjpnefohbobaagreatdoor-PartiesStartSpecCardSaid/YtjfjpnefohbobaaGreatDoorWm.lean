/- Evidence: what decoding a record answers; Decode. Conditions: none. -/
import Derived.Test.YtjfjpnefohbobaaGreatDoorWd
import Derived.Test.YtjfjpnefohbobaaGreatDoorWl
set_option linter.unusedSimpArgs false
set_option linter.unusedVariables false
set_option maxRecDepth 20000
set_option maxHeartbeats 4000000
namespace Go.Proofs.YtjfjpnefohbobaaGreatDoor
open Go.Avc
inductive DecIs (b : List UInt8) : Rec → Int → Prop
 | bad (h : decode b = (zeroV, 10)) : DecIs b zeroR 10
 | no (v : Val) (h : decode b = (v, 0)) (hc : v.check = 0) (he : v.enc = b) (hn : ∀ r : Rec, r.ok → v ≠ recV r) : DecIs b zeroR 500
 | ok (r : Rec) (h : decode b = (recV r, 0)) (hr : r.ok) (he : recE r = b) : DecIs b r 0
theorem DecIs.ex (b : List UInt8) (hb : b.length ≤ 1000000) : ∃ r e, DecIs b r e := by
 rcases decode_cases b hb with ⟨v, h1, h2, h3, h4⟩ | h
 · by_cases hr : ∃ r : Rec, r.ok ∧ v = recV r
   · obtain ⟨r, h5, rfl⟩ := hr
     exact ⟨_, _, .ok r h1 h5 h3⟩
   · exact ⟨_, _, .no v h1 h2 h3 fun r h5 h6 => hr ⟨r, h5, h6⟩⟩
 · exact ⟨_, _, .bad h⟩
def encREt (r : Rec) (e : Int) : PV := .tup [.agg (encR r), .int e]
theorem six {α : Type} {l : List α} (h : l.length = 6) : ∃ a b c d e f, l = [a, b, c, d, e, f] := by
 match l, h with
 | [a, b, c, d, e, f], _ => exact ⟨a, b, c, d, e, f, rfl⟩
theorem Val.of_int {v : Val} (h : v.formed = true) (hk : v.kind = 1) : v = intV v.num := by
 cases v with
 | mk k n s l =>
   rw [Val.formed_eq] at h
   simp only [Val.kind] at hk
   subst hk
   simp [Val.kind] at h
   simp_all [intV, Val.num, Val.str, Val.kids]
theorem Val.of_text {v : Val} (h : v.formed = true) (hk : v.kind = 2) : v = txV v.str.data.toList := by
 cases v with
 | mk k n s l =>
   rw [Val.formed_eq] at h
   simp only [Val.kind] at hk
   subst hk
   simp [Val.kind] at h
   simp_all [txV, Val.num, Val.str, Val.kids]
theorem Val.of_list {v : Val} (h : v.formed = true) (hk : v.kind = 3) : v = lstV v.kids := by
 cases v with
 | mk k n s l =>
   rw [Val.formed_eq] at h
   simp only [Val.kind] at hk
   subst hk
   simp [Val.kind] at h
   simp_all [lstV, Val.num, Val.str, Val.kids]
theorem Val.kinds {v : Val} (h : v.formed = true) : v.kind = 1 ∨ v.kind = 2 ∨ v.kind = 3 := by
 cases v with
 | mk k n s l =>
   rw [Val.formed_eq] at h
   simp only [Val.kind] at *
   by_cases h1 : k = 1
   · exact .inl h1
   · by_cases h2 : k = 2
     · exact .inr (.inl h2)
     · by_cases h3 : k = 3
       · exact .inr (.inr h3)
       · simp [Val.kind, h1, h2, h3] at h
theorem kids_formed {v : Val} (h : v.formed = true) (hk : v.kind = 3) : ∀ x ∈ v.kids, x.formed = true := by
 rw [Val.of_list h hk, lstV_formed, List.all_eq_true] at h
 exact h
def isR6 (a b c d e f : Val) : Prop := a.kind = 1 ∧ b.kind = 1 ∧ c.kind = 1 ∧ d.kind = 1 ∧ e.kind = 2 ∧ f.kind = 2 ∧ f.str.size = 32
def rOf (a b c d e f : Val) : Rec := ⟨a.num, b.num, c.num, d.num, e.str.data.toList, f.str.data.toList⟩
theorem of_R6 {v a b c d e f : Val} (h : v.formed = true) (hk : v.kind = 3) (hl : v.kids = [a, b, c, d, e, f]) (h6 : isR6 a b c d e f) : v = recV (rOf a b c d e f) := by
 have hf := kids_formed h hk
 rw [hl] at hf
 obtain ⟨h1, h2, h3, h4, h5, h6, h7⟩ := h6
 rw [Val.of_list h hk, hl]
 unfold recV recL rOf
 rw [← Val.of_int (hf a (by simp)) h1, ← Val.of_int (hf b (by simp)) h2, ← Val.of_int (hf c (by simp)) h3, ← Val.of_int (hf d (by simp)) h4, ← Val.of_text (hf e (by simp)) h5, ← Val.of_text (hf f (by simp)) h6]
theorem lstV_kids (l : List Val) : (lstV l).kids = l := rfl
theorem recV_inj {v a b c d e f : Val} {r : Rec} (hl : v.kids = [a, b, c, d, e, f]) (hv : v = recV r) (hr : r.ok) : isR6 a b c d e f ∧ r = rOf a b c d e f := by
 subst hv
 rw [recV, lstV_kids] at hl
 simp only [recL, List.cons.injEq, and_true] at hl
 obtain ⟨rfl, rfl, rfl, rfl, rfl, rfl⟩ := hl
 refine ⟨⟨rfl, rfl, rfl, rfl, rfl, rfl, ?_⟩, ?_⟩
 · rw [txV_size]; exact hr.2.2.2.2
 · cases r; simp [rOf, intV, txV, Val.num, Val.str]
theorem rOf_ok {v a b c d e f : Val} (hfit : v.fits) (hl : v.kids = [a, b, c, d, e, f]) (h7 : f.str.size = 32) : (rOf a b c d e f).ok := by
 have hk := (v.fits_iff.1 hfit).2.2
 rw [hl] at hk
 have g1 := (a.fits_iff.1 (hk a (by simp))).2.1
 have g2 := (b.fits_iff.1 (hk b (by simp))).2.1
 have g3 := (c.fits_iff.1 (hk c (by simp))).2.1
 have g4 := (d.fits_iff.1 (hk d (by simp))).2.1
 exact ⟨g1, g2, g3, g4, by show f.str.data.toList.length = 32; rw [Array.length_toList]; exact h7⟩
theorem of_no {v : Val} {a b c d e f : Val} {P : Prop} (hn : ∀ r : Rec, r.ok → v ≠ recV r) (hform : v.formed = true) (hfit : v.fits) (hk : v.kind = 3) (hl : v.kids = [a, b, c, d, e, f]) (h6 : isR6 a b c d e f) : P :=
 absurd (of_R6 hform hk hl h6) (hn _ (rOf_ok hfit hl h6.2.2.2.2.2.2))
theorem SubL.refl : ∀ l : List PV, SubL l l
 | [] => trivial
 | p :: l => ⟨PSub.refl p, SubL.refl l⟩
theorem sub_zeroR {e : Int} {r : Rec} {e' : Int} (h : r = zeroR ∧ e' = e) : PSub (.tup [.agg (.val (.int .i64 0) :: .val (.int .i64 0) :: .val (.int .i64 0) :: .val (.int .i64 0) :: .val (.slice none 0 0) :: dcells z32), .val (.int .i64 e)]) (encREt r e') := by
 obtain ⟨rfl, rfl⟩ := h
 exact PSub.tup ⟨PSub.agg ⟨PSub.refl _, PSub.refl _, PSub.refl _, PSub.refl _, PSub.nil 1, SubL.refl _⟩, PSub.refl _, trivial⟩
theorem DecIs.of_bad {b : List UInt8} {r : Rec} {e : Int} (hd : DecIs b r e) (h : decode b = (zeroV, 10)) : r = zeroR ∧ e = 10 := by
 cases hd with
 | bad => exact ⟨rfl, rfl⟩
 | no v h1 => rw [h] at h1; exact absurd (congrArg Prod.snd h1) (by simp)
 | ok r h1 => rw [h] at h1; exact absurd (congrArg Prod.snd h1) (by simp)
theorem DecIs.of_no {b : List UInt8} {r : Rec} {e : Int} {v : Val} (hd : DecIs b r e) (h : decode b = (v, 0)) (hn : ∀ r : Rec, r.ok → v ≠ recV r) : r = zeroR ∧ e = 500 := by
 cases hd with
 | bad h1 => rw [h] at h1; exact absurd (congrArg Prod.snd h1) (by simp)
 | no v h1 => exact ⟨rfl, rfl⟩
 | ok r h1 hr => rw [h] at h1; exact absurd (congrArg Prod.fst h1) (hn r hr)
theorem DecIs.of_rec {b : List UInt8} {r : Rec} {e : Int} {v a0 a1 a2 a3 a4 a5 : Val} (hd : DecIs b r e) (h : decode b = (v, 0)) (hform : v.formed = true) (hfit : v.fits) (hk : v.kind = 3) (hl : v.kids = [a0, a1, a2, a3, a4, a5]) (h6 : isR6 a0 a1 a2 a3 a4 a5) : r = rOf a0 a1 a2 a3 a4 a5 ∧ e = 0 := by
 have hv := of_R6 hform hk hl h6
 have hok := rOf_ok hfit hl h6.2.2.2.2.2.2
 cases hd with
 | bad h1 => rw [h] at h1; exact absurd (congrArg Prod.snd h1) (by simp)
 | no v' h1 _ _ hn =>
   rw [h] at h1
   exact absurd (hv ▸ (congrArg Prod.fst h1).symm) (hn _ hok)
 | ok r h1 hr =>
   rw [h] at h1
   exact ⟨(recV_inj hl (congrArg Prod.fst h1) hr).2, rfl⟩
theorem not_six {v : Val} (h : ¬ v.kids.length = 6) : ∀ r : Rec, r.ok → v ≠ recV r := fun r _ e => h (by rw [e, recV, lstV_kids]; rfl)
theorem not_lst {v : Val} (h : ¬ v.kind = 3) : ∀ r : Rec, r.ok → v ≠ recV r := fun r _ e => h (by rw [e, recV]; rfl)
theorem not_rec {v a0 a1 a2 a3 a4 a5 : Val} (hl : v.kids = [a0, a1, a2, a3, a4, a5]) (h : ¬ isR6 a0 a1 a2 a3 a4 a5) : ∀ r : Rec, r.ok → v ≠ recV r := fun r hr e => h (recV_inj hl e hr).1
theorem decT (v : Val) : encVE (v, 0) = .tup [.agg [.int v.kind, .int v.num, .val (.string v.str), .sl 4 (v.kids.map encV)], .int 0] := by unfold encVE; rw [encV_eq]
theorem ovr_all {α : Type} {X s : List α} {n : Nat} (h : s.length = 32) (hX : X.length = 32) (hn : n = 32) : ovr X 0 n s = s := by
 subst hn
 unfold ovr
 rw [List.take_zero, List.nil_append, List.take_of_length_le (by omega), List.drop_of_length_le (by omega), List.append_nil]
def kindsR : List (List PV) := [[.int 1], [.int 1], [.int 1], [.int 1], [.int 2], [.int 2]]
def encR0 : List PV := [.val (.int .i64 0), .val (.int .i64 0), .val (.int .i64 0), .val (.int .i64 0), .val (.slice none 0 0)]
attribute [local irreducible] PSub Wp PSpec Le Need Both
attribute [local irreducible] recE recD tagged sha headOf decode Val.formed Val.enc Val.depth recV
theorem evDecode_spec (b : List UInt8) (hb0 : b.length ≤ 1000000) (r : Rec) (e : Int) (hd : DecIs b r e) : PSpec Tryz.prog 96 [encB b] (encREt r e) := by
 have q := decode_spec b hb0
 rcases decode_cases b hb0 with ⟨v, g1, g2, g3, g4⟩ | h
 rotate_left
 · have hr := hd.of_bad h
   rw [h] at q
   refine PSpec.of_vc (fun Γ => more6 false Γ.P Γ.fx) (fun Γ => more6_ok) Tryz.func96 rfl Tryz.call96 (by simp) ?_
   rintro ⟨P, N, w0, X, β0, fx, y, hy, pk, df⟩ rfl rfl rfl hoff rfl; change y.on = false at hoff
   skip
   refine .inl ⟨_, q, ?_⟩
   repeat' ((try conv => whnf); first|refine aq rfl ?_|fail)
   exact sub_zeroR hr
 · rw [g1, decT] at q
   obtain ⟨z, hz⟩ : ∃ z : Int, z = 0 := ⟨_, rfl⟩
   rw [← hz] at q
   by_cases hlen : v.kids.length = 6
   · obtain ⟨c0, c1, c2, c3, c4, c5, hc⟩ := six hlen
     rw [hc] at q
     have q2 : PSpec Tryz.prog 117 [encB b] (.tup [.agg [.int v.kind, .int v.num, .val (.string v.str), .sl 4 [encV c0, encV c1, encV c2, encV c3, encV c4, encV c5]], .int z]) := q
     refine PSpec.of_vc (fun Γ => more6 false Γ.P Γ.fx) (fun Γ => more6_ok) Tryz.func96 rfl Tryz.call96 (by simp) ?_
     rintro ⟨P, N, w0, X, β0, fx, y, hy, pk, df⟩ rfl rfl rfl hoff rfl; change y.on = false at hoff
     skip
     refine .inl ⟨_, q2, ?_⟩
     repeat' ((try conv => whnf); first|(first|refine k3 ?_ ?_|refine k4 ?_ ?_) <;> intro hb <;> (try rw [lM] at hb) <;> try (exfalso; omega)|refine aq rfl ?_|refine aq bd ?_|fail)
     rotate_left
     · exact sub_zeroR (hd.of_no g1 (not_lst (by assumption)))
     have hs4 := (c4.fits_iff.1 ((v.fits_iff.1 g4).2.2 c4 (by rw [hc]; simp))).1
     have hsz : c5.str.data.toList.length = c5.str.size := by rw [Array.length_toList]; rfl
     have hfm : v.formed = true := (check_iff.1 g2).1
     refine Wp.loop (fun k : Nat => ⟨[(2, .loc 2 0 0), (4, .loc 4 0 0), (31, .lsl 18 0 6), (32, .int 6), (33, .int k)], [(18, some (.row 1 kindsR)), (4, some (.box [.int v.kind, .int v.num, .pure (.val (.string v.str)), .pure (.sl 4 [encV c0, encV c1, encV c2, encV c3, encV c4, encV c5])])), (2, some (.box (pures (encR0 ++ dcells z32))))], [18, 4, 2]⟩)
       (fun k => k ≤ 6 ∧ (1 ≤ k → c0.kind = 1) ∧ (2 ≤ k → c1.kind = 1) ∧ (3 ≤ k → c2.kind = 1) ∧ (4 ≤ k → c3.kind = 1) ∧ (5 ≤ k → c4.kind = 2) ∧ (6 ≤ k → c5.kind = 2)) (fun k => 6 - k) 0 (Le.of ?_ ?_ rfl rfl rfl) ⟨by omega, by omega, by omega, by omega, by omega, by omega, by omega⟩ ?_
     · (repeat' (first|exact trivial|refine aq ?_ ?_|exact oq|fail))
     · (repeat' (first|exact trivial|exact rfl|refine aq ?_ ?_|refine Exists.intro _ (aq rfl ?_)|exact oq|fail))
     rintro k ⟨hk, i1, i2, i3, i4, i5, i6⟩
     have hcs : k = 0 ∨ k = 1 ∨ k = 2 ∨ k = 3 ∨ k = 4 ∨ k = 5 ∨ k = 6 := by omega
     rcases hcs with rfl | rfl | rfl | rfl | rfl | rfl | rfl
     · refine code_sound (more := more6 false _ _) more6_ok FOK.wide _ ?_
       repeat' ((try conv => whnf); first|refine aq bd ?_|fail)
       refine ⟨_, _, rfl, rfl, ?_⟩
       repeat' ((try conv => whnf); first|refine aq bd ?_|fail)
       refine ⟨_, rfl, ?_⟩
       repeat' ((try conv => whnf); first|(first|refine k3 ?_ ?_|refine k4 ?_ ?_) <;> intro hb <;> (try rw [lM] at hb) <;> try (exfalso; omega)|refine aq rfl ?_|refine s4 nm ?_|fail)
       · exact ⟨1, Le.of (by (repeat' (first|exact trivial|refine aq ?_ ?_|exact oq|fail))) (by (repeat' (first|exact trivial|exact rfl|refine aq ?_ ?_|refine Exists.intro _ (aq rfl ?_)|exact oq|fail))) rfl rfl rfl, ⟨by omega, by omega, by omega, by omega, by omega, by omega, by omega⟩, by omega⟩
       · exact sub_zeroR (hd.of_no g1 (not_rec hc (by unfold isR6; omega)))
     · refine code_sound (more := more6 false _ _) more6_ok FOK.wide _ ?_
       repeat' ((try conv => whnf); first|refine aq bd ?_|fail)
       refine ⟨_, _, rfl, rfl, ?_⟩
       repeat' ((try conv => whnf); first|refine aq bd ?_|fail)
       refine ⟨_, rfl, ?_⟩
       repeat' ((try conv => whnf); first|(first|refine k3 ?_ ?_|refine k4 ?_ ?_) <;> intro hb <;> (try rw [lM] at hb) <;> try (exfalso; omega)|refine aq rfl ?_|refine s4 nm ?_|fail)
       · exact ⟨2, Le.of (by (repeat' (first|exact trivial|refine aq ?_ ?_|exact oq|fail))) (by (repeat' (first|exact trivial|exact rfl|refine aq ?_ ?_|refine Exists.intro _ (aq rfl ?_)|exact oq|fail))) rfl rfl rfl, ⟨by omega, by omega, by omega, by omega, by omega, by omega, by omega⟩, by omega⟩
       · exact sub_zeroR (hd.of_no g1 (not_rec hc (by unfold isR6; omega)))
     · refine code_sound (more := more6 false _ _) more6_ok FOK.wide _ ?_
       repeat' ((try conv => whnf); first|refine aq bd ?_|fail)
       refine ⟨_, _, rfl, rfl, ?_⟩
       repeat' ((try conv => whnf); first|refine aq bd ?_|fail)
       refine ⟨_, rfl, ?_⟩
       repeat' ((try conv => whnf); first|(first|refine k3 ?_ ?_|refine k4 ?_ ?_) <;> intro hb <;> (try rw [lM] at hb) <;> try (exfalso; omega)|refine aq rfl ?_|refine s4 nm ?_|fail)
       · exact ⟨3, Le.of (by (repeat' (first|exact trivial|refine aq ?_ ?_|exact oq|fail))) (by (repeat' (first|exact trivial|exact rfl|refine aq ?_ ?_|refine Exists.intro _ (aq rfl ?_)|exact oq|fail))) rfl rfl rfl, ⟨by omega, by omega, by omega, by omega, by omega, by omega, by omega⟩, by omega⟩
       · exact sub_zeroR (hd.of_no g1 (not_rec hc (by unfold isR6; omega)))
     · refine code_sound (more := more6 false _ _) more6_ok FOK.wide _ ?_
       repeat' ((try conv => whnf); first|refine aq bd ?_|fail)
       refine ⟨_, _, rfl, rfl, ?_⟩
       repeat' ((try conv => whnf); first|refine aq bd ?_|fail)
       refine ⟨_, rfl, ?_⟩
       repeat' ((try conv => whnf); first|(first|refine k3 ?_ ?_|refine k4 ?_ ?_) <;> intro hb <;> (try rw [lM] at hb) <;> try (exfalso; omega)|refine aq rfl ?_|refine s4 nm ?_|fail)
       · exact ⟨4, Le.of (by (repeat' (first|exact trivial|refine aq ?_ ?_|exact oq|fail))) (by (repeat' (first|exact trivial|exact rfl|refine aq ?_ ?_|refine Exists.intro _ (aq rfl ?_)|exact oq|fail))) rfl rfl rfl, ⟨by omega, by omega, by omega, by omega, by omega, by omega, by omega⟩, by omega⟩
       · exact sub_zeroR (hd.of_no g1 (not_rec hc (by unfold isR6; omega)))
     · refine code_sound (more := more6 false _ _) more6_ok FOK.wide _ ?_
       repeat' ((try conv => whnf); first|refine aq bd ?_|fail)
       refine ⟨_, _, rfl, rfl, ?_⟩
       repeat' ((try conv => whnf); first|refine aq bd ?_|fail)
       refine ⟨_, rfl, ?_⟩
       repeat' ((try conv => whnf); first|(first|refine k3 ?_ ?_|refine k4 ?_ ?_) <;> intro hb <;> (try rw [lM] at hb) <;> try (exfalso; omega)|refine aq rfl ?_|refine s4 nm ?_|fail)
       · exact ⟨5, Le.of (by (repeat' (first|exact trivial|refine aq ?_ ?_|exact oq|fail))) (by (repeat' (first|exact trivial|exact rfl|refine aq ?_ ?_|refine Exists.intro _ (aq rfl ?_)|exact oq|fail))) rfl rfl rfl, ⟨by omega, by omega, by omega, by omega, by omega, by omega, by omega⟩, by omega⟩
       · exact sub_zeroR (hd.of_no g1 (not_rec hc (by unfold isR6; omega)))
     · refine code_sound (more := more6 false _ _) more6_ok FOK.wide _ ?_
       repeat' ((try conv => whnf); first|refine aq bd ?_|fail)
       refine ⟨_, _, rfl, rfl, ?_⟩
       repeat' ((try conv => whnf); first|refine aq bd ?_|fail)
       refine ⟨_, rfl, ?_⟩
       repeat' ((try conv => whnf); first|(first|refine k3 ?_ ?_|refine k4 ?_ ?_) <;> intro hb <;> (try rw [lM] at hb) <;> try (exfalso; omega)|refine aq rfl ?_|refine s4 nm ?_|fail)
       · exact ⟨6, Le.of (by (repeat' (first|exact trivial|refine aq ?_ ?_|exact oq|fail))) (by (repeat' (first|exact trivial|exact rfl|refine aq ?_ ?_|refine Exists.intro _ (aq rfl ?_)|exact oq|fail))) rfl rfl rfl, ⟨by omega, by omega, by omega, by omega, by omega, by omega, by omega⟩, by omega⟩
       · exact sub_zeroR (hd.of_no g1 (not_rec hc (by unfold isR6; omega)))
     · refine code_sound (more := more6 false _ _) more6_ok FOK.wide _ ?_
       skip
       refine Wp.draw (more := more6 true _ _) more6_det more6_ok FOK.wide rfl (by decide +kernel) (by conv => lhs; reduce) ?_
       repeat' ((try conv => whnf); first|refine aq rfl ?_|refine aq bd ?_|fail)
       refine ⟨_, rfl, ?_⟩
       repeat' ((try conv => whnf); first|(first|refine k3 ?_ ?_|refine k4 ?_ ?_) <;> intro hb <;> (try rw [lM] at hb) <;> try (exfalso; omega)|refine aq rfl ?_|refine aq bd ?_|fail)
       · exact sub_zeroR (hd.of_no g1 (not_rec hc (by unfold isR6; omega)))
       refine ⟨_, rfl, ?_⟩
       repeat' ((try conv => whnf); first|(first|refine k3 ?_ ?_|refine k4 ?_ ?_) <;> intro hb <;> (try rw [lM] at hb) <;> try (exfalso; omega)|refine aq rfl ?_|fail)
       · exact sub_zeroR (hd.of_no g1 (not_rec hc (by unfold isR6; omega)))
       have h32 : c5.str.data.toList.length = 32 := by omega
       refine Wp.le (Le.of (s' := ⟨[(2, .loc 2 0 0), (4, .loc 4 0 0), (8, .loc 8 0 0)], [(8, some (.row 1 (c5.str.data.toList.map bR))), (4, some (.box [.int v.kind, .int v.num, .pure (.val (.string v.str)), .pure (.sl 4 [encV c0, encV c1, encV c2, encV c3, encV c4, encV c5])])), (2, some (.box (pures (encR0 ++ dcells z32))))], [8, 18, 4, 2]⟩) ?_ ?_ rfl rfl rfl) ?_
       · (repeat' (first|exact trivial|refine aq ?_ ?_|exact oq|fail))
       · (repeat' (first|exact trivial|refine aq ?_ ?_|refine Exists.intro _ (aq rfl ?_)|exact oq|fail))
         all_goals exact rowEq (ovr_all (by simp [h32]) rfl (by simp [h32]))
       refine Wp.draw (more := more6 true _ _) more6_det more6_ok FOK.wide rfl (by decide +kernel) (by conv => lhs; reduce) ?_
       repeat' ((try conv => whnf); first|refine aq bd ?_|fail)
       refine ⟨_, rfl, ?_⟩
       repeat' ((try conv => whnf); first|refine aq bd ?_|fail)
       refine ⟨_, rfl, ?_⟩
       repeat' ((try conv => whnf); first|refine aq bd ?_|fail)
       refine ⟨_, rfl, ?_⟩
       repeat' ((try conv => whnf); first|refine aq bd ?_|fail)
       refine ⟨_, rfl, ?_⟩
       repeat' ((try conv => whnf); first|refine aq bd ?_|fail)
       refine ⟨_, rfl, ?_⟩
       repeat' ((try conv => whnf); first|refine aq bd ?_|fail)
       refine .inr ⟨rfl, rfl, by rw [List.length_map, h32]; kernel_rfl, ?_⟩
       rw [dcells_eq h32]
       repeat' ((try conv => whnf); first|refine aq rfl ?_|fail)
       obtain ⟨rfl, rfl⟩ := hd.of_rec g1 hfm g4 (by assumption) hc (by unfold isR6; omega)
       exact PSub.tup ⟨PSub.agg ⟨PSub.refl _, PSub.refl _, PSub.refl _, PSub.refl _, sub_sl (by rw [List.drop_zero, List.take_of_length_le (by rw [byteRows, List.length_map, Array.length_toList]; exact Nat.le_refl _)]; rfl), SubL.refl _⟩, PSub.refl _, trivial⟩
   · refine PSpec.of_vc (fun Γ => more6 false Γ.P Γ.fx) (fun Γ => more6_ok) Tryz.func96 rfl Tryz.call96 (by simp) ?_
     rintro ⟨P, N, w0, X, β0, fx, y, hy, pk, df⟩ rfl rfl rfl hoff rfl; change y.on = false at hoff
     skip
     refine .inl ⟨_, q, ?_⟩
     repeat' ((try conv => whnf); first|(first|refine k3 ?_ ?_|refine k4 ?_ ?_) <;> intro hb <;> (try rw [lM] at hb) <;> try (exfalso; omega)|refine aq rfl ?_|refine aq bd ?_|fail)
     · exact sub_zeroR (hd.of_no g1 (not_six hlen))
     · exact sub_zeroR (hd.of_no g1 (not_six hlen))
end Go.Proofs.YtjfjpnefohbobaaGreatDoor
/- Evidence: the reference's Decode. Conditions: none. -/
namespace Go.Proofs.YtjfjpnefohbobaaGreatDoor
open Go.Avc
def dcI (l : List UInt8) (i : Nat) : List PV := dcells (l.take i ++ List.replicate (32 - i) 0)
theorem own_str {r : Rec} {v : Val} {b : List UInt8} (hr : r.ok) (hb : r.body.length ≤ 800000) (hv : v.check = 0) (hfit : v.fits) (he : v.enc = b) (hl : b.length ≤ 800000) : (recE r = b ↔ v = recV r) := by
 have hl := recE_len hr (by omega)
 refine ⟨fun h => ?_, fun h => by rw [← he, h]; rfl⟩
 have h1 := decode_enc hv (by rw [he]; omega) hfit
 have h2 := decode_enc (recV_check r) (by show (recE r).length ≤ _; omega) (recV_fits hr (by omega))
 rw [he, ← h, show recE r = (recV r).enc from rfl, h2] at h1
 exact (congrArg Prod.fst h1).symm
theorem rvDecode_6 {v a0 a1 a2 a3 a4 a5 : Val} {b : List UInt8} {r : Rec} {e : Int} (hd : DecIs b r e) (h : decode b = (v, 0)) (hl : v.kids = [a0, a1, a2, a3, a4, a5]) (hn : ¬ v = recV (rOf a0 a1 a2 a3 a4 a5)) : r = zeroR ∧ e = 500 := hd.of_no h fun r hr hv => hn (by rw [hv, (recV_inj hl hv hr).2])
theorem dcI_all {l : List UInt8} (h : l.length = 32) : dcI l 32 = dcells l := by
 unfold dcI
 rw [List.take_of_length_le (by omega)]
 simp
attribute [local irreducible] PSub Wp PSpec Le Need Both
attribute [local irreducible] recE recD tagged sha headOf decode Val.formed Val.enc Val.depth recV
theorem splice_set {α : Type} {v : α} : ∀ {k : Nat} {l : List α}, k < l.length → splice k l [v] = some (l.set k v)
 | 0, a :: l, _ => by cases l <;> rfl
 | k + 1, a :: l, h => by
   have := splice_set (v := v) (k := k) (l := l) (by simpa using h)
   show (splice k l [v]).map (a :: ·) = _
   rw [this]
   rfl
 | _, [], h => absurd h (by simp)
theorem splice_rec {a b c d e : AV} {L L' : List AV} {k o : Nat} {v : AV} (ho : o = k + 5) (hk : k < L.length) (hL : L.set k v = L') : splice o (a :: b :: c :: d :: e :: L) [v] = some (a :: b :: c :: d :: e :: L') := by
 subst ho
 rw [splice_set (by simpa using hk), ← hL]
 rfl
theorem dcI_step {l : List UInt8} {k : Nat} (h : l.length = 32) (hk : k < 32) : (pures (dcI l k)).set k (.pure (.val (.int .u8 ((l[k]'(by omega)).toNat : Int)))) = pures (dcI l (k + 1)) := by
 have e : ∀ m, dcI l m = (List.range 32).map fun i => bv (l.take m ++ List.replicate (32 - m) 0) i := fun m => dcells_range _
 rw [e, e]
 unfold pures
 apply List.ext_getElem
 · simp
 · intro i h1 h2
   have hi : i < 32 := by simpa using h2
   simp only [List.getElem_set, List.getElem_map, List.getElem_range, bv]
   have g : ∀ m, (l.take m ++ List.replicate (32 - m) (0 : UInt8)).getD i 0 = if i < m then l[i]'(by omega) else 0 := by
     intro m
     rw [List.getD_eq_getElem?_getD, List.getElem?_append]
     by_cases him : i < m
     · rw [if_pos (by simp; omega), if_pos him, List.getElem?_take, if_pos him, List.getElem?_eq_getElem (by omega)]
       rfl
     · rw [if_neg (by simp; omega), if_neg him]
       simp only [List.getElem?_replicate]
       split <;> rfl
   rw [g, g]
   by_cases hik : k = i
   · subst hik; rw [if_pos rfl, if_pos (by omega)]
   · rw [if_neg hik]
     by_cases him : i < k
     · rw [if_pos him, if_pos (by omega)]
     · rw [if_neg him, if_neg (by omega)]
theorem dcI_len (l : List UInt8) (k : Nat) : (pures (dcI l k)).length = 32 := rfl
theorem rvEncode_rows (r : Rec) (rows : List (List PV)) (h : r.ok) (hb : r.body.length ≤ 900000) (hr : rows = r.body.map bR) : PSpec Tryz.prog 27 [.agg (.int r.no :: .int r.party :: .int r.kind :: .int r.day :: .sl 1 rows :: dcells r.prev)] (encBE (recE r, 0)) := by
 subst hr
 exact rvEncode_spec r h hb
theorem kid_size {v x : Val} (hx : x ∈ v.kids) (hk : v.kind = 3) (hf : v.formed = true) : x.str.size ≤ v.enc.length := by
 have h1 : x.str.size ≤ x.enc.length := by
   rw [Val.enc_eq]
   have e : x.str.data.toList.length = x.str.size := by rw [Array.length_toList]; rfl
   have hxf := kids_formed hf hk x hx
   split
   · rename_i h; rw [Val.of_int hxf h]; show (0 : Nat) ≤ _; exact Nat.zero_le _
   · split
     · simp only [List.length_cons, List.length_append, e]; omega
     · rename_i h1 h2
       rcases Val.kinds hxf with h | h | h
       · exact absurd h h1
       · exact absurd h h2
       · rw [Val.of_list hxf h]; show (0 : Nat) ≤ _; exact Nat.zero_le _
 have h2 : ∀ l : List Val, x ∈ l → x.enc.length ≤ (bytesL l).length := by
   intro l
   induction l with
   | nil => intro h; cases h
   | cons y l ih =>
     intro h
     simp only [bytesL, List.length_append]
     rcases List.mem_cons.1 h with rfl | h
     · omega
     · have := ih h; omega
 have h3 : (bytesL v.kids).length ≤ v.enc.length := by
   rw [Val.of_list hf hk, lstV_enc, lstV_kids]
   simp only [List.length_cons, List.length_append]
   omega
 have := h2 _ hx
 omega
theorem rvDecode_spec (b : List UInt8) (hb0 : b.length ≤ 800000) (r : Rec) (e : Int) (hd : DecIs b r e) : PSpec Tryz.prog 57 [encB b] (encREt r e) := by
 have q := rDecode_spec b (by omega)
 rcases decode_cases b (by omega) with ⟨v, g1, g2, g3, g4⟩ | h
 rotate_left
 · have hr := hd.of_bad h
   rw [h] at q
   refine PSpec.of_vc (fun Γ => more6 false Γ.P Γ.fx) (fun Γ => more6_ok) Tryz.func57 rfl Tryz.call57 (by simp) ?_
   rintro ⟨P, N, w0, X, β0, fx, y, hy, pk, df⟩ rfl rfl rfl hoff rfl; change y.on = false at hoff
   skip
   refine .inl ⟨_, q, ?_⟩
   repeat' ((try conv => whnf); first|refine aq rfl ?_|fail)
   exact sub_zeroR hr
 · rw [g1, decT] at q
   obtain ⟨z, hz⟩ : ∃ z : Int, z = 0 := ⟨_, rfl⟩
   rw [← hz] at q
   by_cases hlen : v.kids.length = 6
   · obtain ⟨c0, c1, c2, c3, c4, c5, hc⟩ := six hlen
     rw [hc] at q
     have q2 : PSpec Tryz.prog 97 [encB b] (.tup [.agg [.int v.kind, .int v.num, .val (.string v.str), .sl 4 [encV c0, encV c1, encV c2, encV c3, encV c4, encV c5]], .int z]) := q
     have hs4 := (c4.fits_iff.1 ((v.fits_iff.1 g4).2.2 c4 (by rw [hc]; simp))).1
     have hsz : c5.str.data.toList.length = c5.str.size := by rw [Array.length_toList]; rfl
     refine PSpec.of_vc (fun Γ => more6 false Γ.P Γ.fx) (fun Γ => more6_ok) Tryz.func57 rfl Tryz.call57 (by simp) ?_
     rintro ⟨P, N, w0, X, β0, fx, y, hy, pk, df⟩ rfl rfl rfl hoff rfl; change y.on = false at hoff
     skip
     refine .inl ⟨_, q2, ?_⟩
     repeat' ((try conv => whnf); first|(first|refine k3 ?_ ?_|refine k4 ?_ ?_) <;> intro hb <;> (try rw [lM] at hb) <;> try (exfalso; omega)|refine aq rfl ?_|refine aq bd ?_|fail)
     refine ⟨_, rfl, ?_⟩
     repeat' ((try conv => whnf); first|(first|refine k3 ?_ ?_|refine k4 ?_ ?_) <;> intro hb <;> (try rw [lM] at hb) <;> try (exfalso; omega)|refine aq rfl ?_|fail)
     rotate_left
     · exact sub_zeroR (hd.of_no g1 (not_rec hc (by unfold isR6; omega)))
     have hfm : v.formed = true := (check_iff.1 g2).1
     have hk3 : v.kind = 3 := by
       have h := v.formed_eq
       rw [hfm, hc] at h
       by_cases e1 : v.kind = 1
       · simp [e1] at h
       · by_cases e2 : v.kind = 2
         · simp [e2] at h
         · rcases Val.kinds hfm with e | e | e
           · exact absurd e e1
           · exact absurd e e2
           · exact e
     have hb4 : (rOf c0 c1 c2 c3 c4 c5).body.length ≤ 800000 := by
       have := kid_size (x := c4) (v := v) (by rw [hc]; simp) hk3 hfm
       show c4.str.data.toList.length ≤ _
       rw [Array.length_toList]
       show c4.str.size ≤ _
       rw [g3] at this
       omega
     have hok4 : (rOf c0 c1 c2 c3 c4 c5).ok := rOf_ok g4 hc (by omega)
     have h32 : c5.str.data.toList.length = 32 := by omega
     refine Wp.draw (more := more6 true _ _) more6_det more6_ok FOK.wide rfl (by decide +kernel) (by conv => lhs; reduce) ?_
     repeat' ((try conv => whnf); first|refine aq bd ?_|fail)
     refine ⟨_, rfl, ?_⟩
     repeat' ((try conv => whnf); first|refine aq bd ?_|fail)
     refine ⟨_, rfl, ?_⟩
     repeat' ((try conv => whnf); first|refine aq bd ?_|fail)
     refine ⟨_, rfl, ?_⟩
     repeat' ((try conv => whnf); first|refine aq bd ?_|fail)
     refine ⟨_, rfl, ?_⟩
     repeat' ((try conv => whnf); first|refine aq bd ?_|fail)
     refine ⟨_, rfl, ?_⟩
     repeat' ((try conv => whnf); first|refine aq rfl ?_|refine aq bd ?_|fail)
     refine Wp.loop (fun k : Nat => ⟨[(0, .pure (encB b)), (2, .loc 2 0 0), (4, .loc 4 0 0), (6, .loc 6 0 0), (7, .int k)], [(6, some (.box (.int c0.num :: .int c1.num :: .int c2.num :: .int c3.num :: .lsl 58 0 c4.str.size :: pures (dcI c5.str.data.toList k)))), (58, some (.row 1 (byteRows c4.str.data.toList))), (4, some (.box [.int v.kind, .int v.num, .pure (.val (.string v.str)), .pure (.sl 4 [encV c0, encV c1, encV c2, encV c3, encV c4, encV c5])])), (2, some (.box (pures (encR0 ++ dcells z32))))], [6, 58, 4, 2]⟩)
       (fun k => k ≤ 32) (fun k => 32 - k) 0 (Le.of ?_ ?_ rfl rfl rfl) (by omega) ?_
     · (repeat' (first|exact trivial|refine aq ?_ ?_|exact oq|fail))
     · (repeat' (first|exact trivial|exact rfl|refine aq ?_ ?_|refine Exists.intro _ (aq rfl ?_)|exact oq|fail))
     intro k hk
     by_cases hk2 : k < 32
     · refine code_sound (more := more6 false _ _) more6_ok FOK.wide _ ?_
       repeat' ((try conv => whnf); first|(first|refine k3 ?_ ?_|refine k4 ?_ ?_) <;> intro hb <;> (try rw [lM] at hb) <;> try (exfalso; omega)|refine aq bd ?_|fail)
       refine ⟨_, rfl, ?_⟩
       repeat' ((try conv => whnf); first|refine aq bd ?_|fail)
       refine ⟨c5.str.data.toList[k]'(by omega), by simp, ?_⟩
       repeat' ((try conv => whnf); first|refine aq rfl ?_|refine aq bd ?_|fail)
       conv => whnf
       split
       · rename_i cs heq
         have heq2 := (splice_rec (k := k) (by show 0 + 5 + k * 1 = k + 5; omega) (by rw [dcI_len]; omega) (dcI_step h32 hk2)).symm.trans heq
         cases heq2
         repeat' ((try conv => whnf); first|refine s4 nm ?_|fail)
         exact ⟨k + 1, Le.of (by (repeat' (first|exact trivial|refine aq ?_ ?_|exact oq|fail))) (by (repeat' (first|exact trivial|exact rfl|refine aq ?_ ?_|refine Exists.intro _ (aq rfl ?_)|exact oq|fail))) rfl rfl rfl, by omega, by omega⟩
       · rename_i heq
         have heq2 := (splice_rec (k := k) (by show 0 + 5 + k * 1 = k + 5; omega) (by rw [dcI_len]; omega) (dcI_step h32 hk2)).symm.trans heq
         cases heq2
     · obtain rfl : k = 32 := by omega
       rw [dcI_all h32]
       refine code_sound (more := more6 false _ _) more6_ok FOK.wide _ ?_
       skip
       refine .inl ⟨_, rvEncode_rows (rOf c0 c1 c2 c3 c4 c5) _ hok4 (by omega) (by rw [List.drop_zero, List.take_of_length_le (by rw [byteRows, List.length_map, Array.length_toList]; exact Nat.le_refl _)]; rfl), ?_⟩
       repeat' ((try conv => whnf); first|(first|refine k3 ?_ ?_|refine k4 ?_ ?_) <;> intro hb <;> (try rw [lM] at hb) <;> try (exfalso; omega)|refine aq rfl ?_|refine s7 ?_|fail)
       · have hv : v = recV (rOf c0 c1 c2 c3 c4 c5) := (own_str hok4 hb4 g2 g4 g3 hb0).1 (ba_toArray.1 (by assumption))
         obtain ⟨rfl, rfl⟩ := hd.of_rec g1 hfm g4 hk3 hc (recV_inj hc hv hok4).1
         exact PSub.tup ⟨PSub.agg ⟨PSub.refl _, PSub.refl _, PSub.refl _, PSub.refl _, sub_sl (by rw [List.drop_zero, List.take_of_length_le (by rw [byteRows, List.length_map, Array.length_toList]; exact Nat.le_refl _)]; rfl), SubL.refl _⟩, PSub.refl _, trivial⟩
       · exact sub_zeroR (rvDecode_6 hd g1 hc (fun hv => absurd (congrArg (fun x : List UInt8 => (⟨x.toArray⟩ : ByteArray)) ((own_str hok4 hb4 g2 g4 g3 hb0).2 hv)) (by assumption)))
   · refine PSpec.of_vc (fun Γ => more6 false Γ.P Γ.fx) (fun Γ => more6_ok) Tryz.func57 rfl Tryz.call57 (by simp) ?_
     rintro ⟨P, N, w0, X, β0, fx, y, hy, pk, df⟩ rfl rfl rfl hoff rfl; change y.on = false at hoff
     skip
     refine .inl ⟨_, q, ?_⟩
     repeat' ((try conv => whnf); first|(first|refine k3 ?_ ?_|refine k4 ?_ ?_) <;> intro hb <;> (try rw [lM] at hb) <;> try (exfalso; omega)|refine aq rfl ?_|fail)
     exact sub_zeroR (hd.of_no g1 (not_six hlen))
end Go.Proofs.YtjfjpnefohbobaaGreatDoor
/- Evidence: records whose encodings collide; facts of the chapter's examples. Conditions: none. -/
namespace Go.Proofs.YtjfjpnefohbobaaGreatDoor
open Go.Avc
attribute [local irreducible] PSub Wp PSpec Le Need Both
attribute [local irreducible] recE recD tagged sha headOf decode Val.formed Val.enc Val.depth recV
end Go.Proofs.YtjfjpnefohbobaaGreatDoor
/- Evidence: the chapter's examples. Conditions: none. -/
namespace Go.Proofs.YtjfjpnefohbobaaGreatDoor
open Go.Avc
def exA : Rec := ⟨0, 3, 1, 5, [97], z32⟩
def exB : Rec := ⟨1, 3, 3, 5, [], recD exA⟩
theorem valid_nil : Valid [] := fun k h => absurd h (by simp)
theorem exA_fits : Fits [] exA := ⟨by decide, rfl, by decide, by decide, by decide, by decide, rfl, .inl rfl⟩
theorem exB_fits : Fits [exA] exB := ⟨by decide, rfl, by decide, by decide, by decide, by decide, rfl, .inr (by decide)⟩
theorem valid_A : Valid [exA] := fun k h => by
 have : k = 0 := by simpa using h
 subst this; exact exA_fits
theorem g2' : addR [exA] (mkR [exA] 3 3 5 []) = ([exA, exB], 0) := addR_yes valid_A (by decide) exB_fits
attribute [local irreducible] PSub Wp PSpec Le Need Both
attribute [local irreducible] recE recD tagged sha headOf decode Val.formed Val.enc Val.depth recV
end Go.Proofs.YtjfjpnefohbobaaGreatDoor
