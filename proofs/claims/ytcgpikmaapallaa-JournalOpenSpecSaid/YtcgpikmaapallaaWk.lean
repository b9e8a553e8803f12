/- Journals: the law of syncing in steps is walked. Conditions: none. -/
import Derived.Test.YtcgpikmaapallaaWd
import Derived.Test.YtcgpikmaapallaaWi
import Derived.Test.YtcgpikmaapallaaWj
set_option linter.unusedSimpArgs false
set_option linter.unusedVariables false
set_option maxRecDepth 20000
set_option maxHeartbeats 4000000
namespace Go.Proofs.Ytcgpikmaapallaa
open Go.Avc
def d40 : Disk := ⟨List.replicate 40 zeroS, [], -1, false⟩
theorem new40 : newD 40 = (d40, 0) := rfl
theorem open40 : openJ d40 = (⟨[], 40, 0⟩, 0) := (new_inv (n := 40) (by omega) (by omega)).open
theorem add_snoc (j : Jour) (l : List (List UInt8)) {k : Nat} (h : k < l.length) : j.add (l.take (k + 1)) = if ((j.add (l.take k)).append l[k]).2 = 0 then ((j.add (l.take k)).append l[k]).1 else j.add (l.take k) := by
 rw [List.take_succ_eq_append_getElem h, Jour.add_append]; rfl
theorem add_nil (j : Jour) : j.add [] = j := rfl
attribute [local irreducible] PSub Wp PSpec Le Need Both
attribute [local irreducible] Jour.add Jour.append
theorem add_spec (j : Jour) (l : List (List UInt8)) (hg : j.good) (hl : lensN j.records + lensN l ≤ 900000) : PSpec Try.prog 26 [encJ j, encS l] (encJ (j.add l)) := by
 have hll := lensN_len l
 refine PSpec.of_vc (fun Γ => more3 false Γ.P Γ.fx) (fun Γ => more3_ok) Try.func26 rfl Try.call26 (by simp) ?_
 rintro ⟨P, N, w0, X, β0, fx, y, hy, pk, df⟩ rfl rfl rfl hoff rfl; change y.on = false at hoff
 skip
 refine Wp.loop (fun k : Nat => ⟨[(2, .loc 2 0 0), (4, .loc 4 0 0), (9, .pure (encS l)), (10, .int l.length), (11, .int k)],
   [(2, some (.box [.pure (encS (j.add (l.take k)).records), .int (j.add (l.take k)).many, .int (j.add (l.take k)).synced])), (4, some (.box [.pure (.val (.slice none 0 0)), .int 0, .int 0]))], [2, 4]⟩)
   (fun k => k ≤ l.length) (fun k => l.length - k) 0 (Le.of ?_ ?_ rfl rfl rfl) (by omega) ?_
 · simp only [List.take_zero, add_nil]
   (repeat' (first|exact trivial|refine aq ?_ ?_|exact oq|exact l1 bd|fail))
 · simp only [List.take_zero, add_nil]
   (repeat' (first|exact trivial|refine aq ?_ ?_|refine Exists.intro _ (aq rfl ?_)|exact oq|fail))
 intro k hk
 obtain ⟨new, a1, a2, a3, a4, a5, a6⟩ := Jour.add_spec (l.take k) j hg
 have hlt := lensN_take l k
 by_cases hk2 : k < l.length
 · have hb := lensN_mem (List.getElem_mem hk2)
   have hsn := add_snoc j l hk2
   obtain ⟨J, hJ⟩ : ∃ J, J = j.add (l.take k) := ⟨_, rfl⟩
   rw [← hJ] at a4 a5 hsn ⊢
   have q := append_spec J l[k] (by omega) (by omega)
   obtain ⟨A, hA⟩ : ∃ A, A = J.append l[k] := ⟨_, rfl⟩
   rw [← hA] at q hsn
   obtain ⟨A1, A2⟩ := A
   refine code_sound (more := more3 false _ _) more3_ok FOK.wide _ ?_
   repeat' ((try conv => whnf); first|(first|refine k3 ?_ ?_|refine k4 ?_ ?_) <;> intro hb <;> (try rw [lM] at hb) <;> try (exfalso; omega)|refine s5 nm nm ?_|fail)
   refine .inl ⟨_, q, ?_⟩
   repeat' ((try conv => whnf); first|(first|refine k3 ?_ ?_|refine k4 ?_ ?_) <;> intro hb <;> (try rw [lM] at hb) <;> try (exfalso; omega)|refine aq rfl ?_|refine s4 nm ?_|fail)
   · rw [if_pos (by assumption)] at hsn
     refine ⟨k + 1, Le.of ?_ ?_ rfl rfl rfl, by omega, by omega⟩
     · (repeat' (first|exact trivial|refine aq ?_ ?_|exact oq|fail))
     · simp only [hsn]
       (repeat' (first|exact trivial|refine aq ?_ ?_|refine Exists.intro _ (aq rfl ?_)|exact oq|fail))
   · rw [if_neg (by assumption)] at hsn
     refine ⟨k + 1, Le.of ?_ ?_ rfl rfl rfl, by omega, by omega⟩
     · (repeat' (first|exact trivial|refine aq ?_ ?_|exact oq|fail))
     · simp only [hsn]
       (repeat' (first|exact trivial|refine aq ?_ ?_|refine Exists.intro _ (aq rfl ?_)|exact oq|fail))
 · have ek : k = l.length := by omega
   subst ek
   rw [List.take_length]
   refine code_sound (more := more3 false _ _) more3_ok FOK.wide _ ?_
   repeat' ((try conv => whnf); first|(first|refine k3 ?_ ?_|refine k4 ?_ ?_) <;> intro hb <;> (try rw [lM] at hb) <;> try (exfalso; omega)|refine aq rfl ?_|fail)
   exact PSub.refl _
end Go.Proofs.Ytcgpikmaapallaa
/- Journals: the law of what survives a crash is walked. Conditions: none. -/
namespace Go.Proofs.Ytcgpikmaapallaa
open Go.Avc
abbrev Crs := List (List UInt8) × Bool × UInt8
def encC (c : Crs) : List PV := [encS c.1, .bool c.2.1, .val (.int .u8 c.2.2.toNat)]
theorem tmN (x m : Nat) : (x : Int).tmod (m : Int) = ((x % m : Nat) : Int) := by rw [Int.tmod_eq_emod_of_nonneg (by omega)]; omega
theorem lens_occ (l : List (List UInt8)) : lensN l ≤ 113 * occN l := by
 induction l with
 | nil => simp [lensN, occN]
 | cons b l ih =>
   have := pieces_cov b.length
   have := pieces_pos b.length
   simp only [lensN, occN, List.map_cons, List.sum_cons] at ih ⊢; omega
theorem InvD.occ {d : Disk} {R : List (List UInt8 × Nat)} {G : Nat} (h : InvD d R G) : occN (R.map (·.1)) ≤ d.sectors.length := by
 obtain ⟨tail, h1, _⟩ := h.inv.form
 rw [h1, List.length_append, lay_len]; exact Nat.le_add_right _ _
attribute [local irreducible] PSub Wp PSpec Le Need Both
attribute [local irreducible] Jour.add Jour.append Jour.sync openJ
end Go.Proofs.Ytcgpikmaapallaa
/- Journals: the law of what survives a crash is walked, whatever the sizes. Conditions: none. -/
namespace Go.Proofs.Ytcgpikmaapallaa
open Go.Avc
attribute [local irreducible] PSub Wp PSpec Le Need Both
attribute [local irreducible] Jour.add Jour.append Jour.sync openJ
theorem survives_wide (s0 : UInt8) (sc : List Crs) (hsz : ∀ c ∈ sc, RecSz c.1) : PSpec Try.prog 8 [.val (.int .u8 s0.toNat), .sl 3 (sc.map encC)] (.bool true) := by
 have hs0 := UInt8.toNat_lt s0
 refine PSpec.bd Try.call8 fun hbd => ?_
 obtain ⟨N, hN⟩ : ∃ N, N = s0.toNat % 30 + 1 := ⟨_, rfl⟩
 have qn := new_spec N
 rw [show newD N = (⟨List.replicate N zeroS, [], -1, false⟩, 0) by unfold newD; rw [if_neg (by omega), Int.toNat_natCast]] at qn
 refine PSpec.of_vc (fun Γ => more3 false Γ.P Γ.fx) (fun Γ => more3_ok) Try.func8 rfl Try.call8 (by simp) ?_
 rintro ⟨P, N, w0, X, β0, fx, y, hy, pk, df⟩ rfl rfl rfl hoff rfl; change y.on = false at hoff
 skip
 refine .inl ⟨_, jsane_spec, ?_⟩
 repeat' ((try conv => whnf); first|(first|refine k3 ?_ ?_|refine k4 ?_ ?_) <;> intro hb <;> (try rw [lM] at hb) <;> try (exfalso; omega)|refine aq bd ?_|fail)
 · exact PSub.refl _
 refine ⟨((s0.toNat % 30 : Nat) : Int), tmN _ 30, ?_⟩
 repeat' ((try conv => whnf); first|refine s4 nm ?_|fail)
 refine .inl ⟨_, qn.args ⟨PSub.of_eq (by rw [hN]; simp), trivial⟩, ?_⟩
 repeat' ((try conv => whnf); first|refine aq rfl ?_|fail)
 have hsl : sc.length ≤ 8 := by omega
 refine Wp.loop (fun q : Nat × Disk × List (List UInt8 × Nat) × Nat => ⟨[(5, .loc 5 0 0), (7, .pure (encS (q.2.2.1.map (·.1)))), (38, .pure (.sl 3 (sc.map encC))), (39, .int sc.length), (40, .int q.1)],
   [(5, some (.box [.pure (encS q.2.1.sectors), .pure (encWs q.2.1.pending), .int q.2.1.left, .bool q.2.1.stopped]))], [5]⟩)
   (fun q => q.1 ≤ sc.length ∧ InvD q.2.1 q.2.2.1 q.2.2.2 ∧ q.2.1.left = -1 ∧ q.2.1.sectors.length = N ∧ q.2.2.2 ≤ q.1) (fun q => sc.length - q.1) (0, ⟨List.replicate N zeroS, [], -1, false⟩, [], 0) (Le.of ?_ ?_ rfl rfl rfl) ⟨by simp, new_inv (by omega) (by omega), rfl, by simp, by simp⟩ ?_
 · exact ⟨Or.inl rfl, Or.inr (Or.inr (Or.inl ⟨_, _, rfl, rfl, PSub.nil 1⟩)), Or.inl rfl, SubA.int (by simp), Or.inl rfl, trivial⟩
 · (repeat' (first|exact trivial|refine aq ?_ ?_|refine Exists.intro _ (aq rfl ?_)|exact oq|fail))
 rintro ⟨k, d, R, G⟩ ⟨hk, hI, hleft, hlenN, hGk⟩
 dsimp only at hk hI hleft hlenN hGk ⊢
 have hop := hI.open
 rw [hlenN] at hop
 have po := open_spec d
 rw [hop] at po
 have hoc := hI.occ
 have hlo := lens_occ (R.map (·.1))
 by_cases hk2 : k < sc.length
 rotate_left
 · have ek : k = sc.length := by omega
   subst ek
   have qr := sameRecords_spec (R.map (·.1)) (R.map (·.1)) (by have := lensN_len (R.map (·.1)); omega)
   rw [beq_self_eq_true] at qr
   refine code_sound (more := more3 false _ _) more3_ok FOK.wide _ ?_
   repeat' ((try conv => whnf); first|(first|refine k3 ?_ ?_|refine k4 ?_ ?_) <;> intro hb <;> (try rw [lM] at hb) <;> try (exfalso; omega)|fail)
   refine .inl ⟨_, po, ?_⟩
   repeat' ((try conv => whnf); first|refine aq rfl ?_|fail)
   refine .inl ⟨_, qr, ?_⟩
   skip
   exact PSub.refl _
 have hcz := hsz _ (List.getElem_mem hk2)
 obtain ⟨cr, hcr⟩ : ∃ cr, cr = sc[k].1 := ⟨_, rfl⟩
 obtain ⟨cst, hcs⟩ : ∃ cs, cs = sc[k].2.1 := ⟨_, rfl⟩
 obtain ⟨cl, hcl⟩ : ∃ cl, cl = sc[k].2.2 := ⟨_, rfl⟩
 have hclt := UInt8.toNat_lt cl
 rw [← hcr] at hcz
 have pf := jfew_any d cr hcz
 obtain ⟨F, hF⟩ : ∃ F, F = fewW d cr := ⟨_, rfl⟩
 rw [← hF] at pf
 have qr := sameRecords_spec (R.map (·.1)) (R.map (·.1)) (by have := lensN_len (R.map (·.1)); omega)
 rw [beq_self_eq_true] at qr
 refine code_sound (more := more3 false _ _) more3_ok FOK.wide _ ?_
 repeat' ((try conv => whnf); first|(first|refine k3 ?_ ?_|refine k4 ?_ ?_) <;> intro hb <;> (try rw [lM] at hb) <;> try (exfalso; omega)|refine aq rfl ?_|refine s5 nm nm ?_|fail)
 rw [← hcr, ← hcs, ← hcl]
 refine .inl ⟨_, pf, ?_⟩
 repeat' ((try conv => whnf); first|refine k5 (fun hb => ?_) fun hb => ?_|fail)
 rotate_left
 · exact PSub.val_bool (by first | rfl | simp)
 refine .inl ⟨_, po, ?_⟩
 repeat' ((try conv => whnf); first|(first|refine k3 ?_ ?_|refine k4 ?_ ?_) <;> intro hb <;> (try rw [lM] at hb) <;> try (exfalso; omega)|refine aq rfl ?_|fail)
 rotate_left
 · refine absurd ?_ ‹¬ _ = _›
   simp
 have hcrl : cr.length ≤ 140737488355328 := by have := hcz.h24; omega
 refine .inl ⟨_, qr, ?_⟩
 skip
 have hgJ : (⟨R.map (·.1), N, R.length⟩ : Jour).good := ⟨by simp only; omega, by simp only; omega, by simp only; omega, by simp, by simp only; omega⟩
 refine Wp.loop (fun m : Nat => ⟨[(5, .loc 5 0 0), (7, .pure (encS (R.map (·.1)))), (9, .loc 9 0 0), (10, .loc 10 0 0), (38, .pure (.sl 3 (sc.map encC))), (39, .int sc.length), (40, .int k), (72, .pure (encS cr)), (73, .int cr.length), (74, .int m)],
   [(5, some (.box [.pure (encS d.sectors), .pure (encWs d.pending), .int d.left, .bool d.stopped])), (9, some (.box [.pure (encS cr), .bool cst, .pure (.val (.int .u8 cl.toNat))])),
    (10, some (.box [.pure (encS ((⟨R.map (·.1), N, R.length⟩ : Jour).add (cr.take m)).records), .int ((⟨R.map (·.1), N, R.length⟩ : Jour).add (cr.take m)).many, .int ((⟨R.map (·.1), N, R.length⟩ : Jour).add (cr.take m)).synced]))], [5, 9, 10]⟩)
   (fun m => m ≤ cr.length) (fun m => cr.length - m) 0 (Le.of ?_ ?_ rfl rfl rfl) (by omega) ?_
 · (repeat' (first|exact trivial|refine aq ?_ ?_|exact oq|exact l1 bd|fail))
 · simp only [List.take_zero, add_nil]
   (repeat' (first|exact trivial|refine aq ?_ ?_|refine Exists.intro _ (aq rfl ?_)|exact oq|fail))
 intro m hm
 obtain ⟨new, a1, a2, a3, a4, a5, _⟩ := Jour.add_spec (cr.take m) ⟨R.map (·.1), N, R.length⟩ hgJ
 dsimp only at a1 a2 a3 a5
 have hlt : lensN ((⟨R.map (·.1), N, R.length⟩ : Jour).add (cr.take m)).records ≤ 3390 := by
   have h1 := lens_occ ((⟨R.map (·.1), N, R.length⟩ : Jour).add (cr.take m)).records
   have h2 := a4.2.2.2.2
   rw [a2] at h2
   omega
 by_cases hm2 : m < cr.length
 · have hb := hcz.hb _ (List.getElem_mem hm2)
   have hsn := add_snoc ⟨R.map (·.1), N, R.length⟩ cr hm2
   obtain ⟨J, hJ⟩ : ∃ J, J = (⟨R.map (·.1), N, R.length⟩ : Jour).add (cr.take m) := ⟨_, rfl⟩
   rw [← hJ] at a4 a5 hlt hsn ⊢
   have q := append_spec J cr[m] (by omega) (by omega)
   obtain ⟨A, hA⟩ : ∃ A, A = J.append cr[m] := ⟨_, rfl⟩
   rw [← hA] at q hsn
   obtain ⟨A1, A2⟩ := A
   refine code_sound (more := more3 false _ _) more3_ok FOK.wide _ ?_
   repeat' ((try conv => whnf); first|(first|refine k3 ?_ ?_|refine k4 ?_ ?_) <;> intro hb <;> (try rw [lM] at hb) <;> try (exfalso; omega)|refine s5 nm nm ?_|fail)
   refine .inl ⟨_, q, ?_⟩
   repeat' ((try conv => whnf); first|(first|refine k3 ?_ ?_|refine k4 ?_ ?_) <;> intro hb <;> (try rw [lM] at hb) <;> try (exfalso; omega)|refine aq rfl ?_|refine s4 nm ?_|fail)
   · rw [if_pos (by assumption)] at hsn
     refine ⟨m + 1, Le.of ?_ ?_ rfl rfl rfl, by omega, by omega⟩
     · (repeat' (first|exact trivial|refine aq ?_ ?_|exact oq|fail))
     · simp only [hsn]
       (repeat' (first|exact trivial|refine aq ?_ ?_|refine Exists.intro _ (aq rfl ?_)|exact oq|fail))
   · rw [if_neg (by assumption)] at hsn
     refine ⟨m + 1, Le.of ?_ ?_ rfl rfl rfl, by omega, by omega⟩
     · (repeat' (first|exact trivial|refine aq ?_ ?_|exact oq|fail))
     · simp only [hsn]
       (repeat' (first|exact trivial|refine aq ?_ ?_|refine Exists.intro _ (aq rfl ?_)|exact oq|fail))
 have em : m = cr.length := by omega
 subst em
 rw [List.take_length] at a1 a2 a3 a4 a5 ⊢
 obtain ⟨J, hJ⟩ : ∃ J, J = (⟨R.map (·.1), N, R.length⟩ : Jour).add cr := ⟨_, rfl⟩
 rw [← hJ] at a1 a2 a3 a4 a5 ⊢
 clear hJ
 obtain ⟨Jr, Jm, Js⟩ := J
 dsimp only at a1 a2 a3 a5
 subst a2 a3
 have hlen : (R.map (·.1)).length ≤ Jr.length := by rw [a1]; simp
 have hgJ5 : occN Jr ≤ N := by have := a4.2.2.2.2; dsimp only at this; omega
 have hJl0 : lensN Jr ≤ 3390 := by have := lens_occ Jr; omega
 have qrJ := sameRecords_spec Jr Jr (by have := lensN_len Jr; omega)
 rw [beq_self_eq_true] at qrJ
 dsimp only
 refine code_sound (more := more3 false _ _) more3_ok FOK.wide _ ?_
 repeat' ((try conv => whnf); first|(first|refine k3 ?_ ?_|refine k4 ?_ ?_) <;> intro hb <;> (try rw [lM] at hb) <;> try (exfalso; omega)|refine k6 (fun hb => ?_) fun hb => ?_|refine aq bd ?_|fail)
 · exfalso
   simp only [List.length_map] at hb hlen
   omega
 · refine ⟨((cl.toNat % 40 : Nat) : Int), tmN _ 40, ?_⟩
   repeat' ((try conv => whnf); first|refine s4 nm ?_|fail)
   have pst := stop_spec d ((cl.toNat % 40 : Nat) : Int)
   rw [show d.stop ((cl.toNat % 40 : Nat) : Int) = (⟨d.sectors, d.pending, ((cl.toNat % 40 : Nat) : Int), d.stopped⟩, 0) by unfold Disk.stop; rw [if_pos (ready_ok (check_good hI.good) hI.run), if_neg (by omega)]] at pst
   have hI2 : InvD ⟨d.sectors, d.pending, ((cl.toNat % 40 : Nat) : Int), d.stopped⟩ R G := ⟨hI.pend, hI.run, ⟨by dsimp only; omega, by dsimp only; omega⟩, hI.len, hI.inv⟩
   refine .inl ⟨_, pst, ?_⟩
   repeat' ((try conv => whnf); first|refine aq rfl ?_|fail)
   have jsp := jsync_spec ⟨Jr, N, R.length⟩ ⟨d.sectors, d.pending, ((cl.toNat % 40 : Nat) : Int), d.stopped⟩ (by dsimp only; omega)
   rcases (hI2).sync (by omega) (j := ⟨Jr, N, R.length⟩) (new := new) a1 (by dsimp only; omega) rfl (by dsimp only; omega) with ⟨d2, G2, t1, t2, t3, t4, t5⟩ | ⟨hl, d2, n, G2, t1, t2, t3, t4, t5⟩
   · rw [t1] at jsp
     dsimp only at jsp t2
     have hJr : List.map (fun x : List UInt8 × Nat => x.1) (R ++ List.map (fun b : List UInt8 => (b, G + 1)) new) = Jr := by rw [a1]; simp [Function.comp_def]
     refine .inl ⟨_, jsp, ?_⟩
     repeat' ((try conv => whnf); first|(first|refine k3 ?_ ?_|refine k4 ?_ ?_) <;> intro hb <;> (try rw [lM] at hb) <;> try (exfalso; omega)|refine aq rfl ?_|fail)
     · refine .inl ⟨_, qrJ, ?_⟩
       skip
       refine .inl ⟨_, restart_spec d2, ?_⟩
       repeat' ((try conv => whnf); first|refine aq rfl ?_|refine s4 nm ?_|fail)
       refine ⟨(k + 1, ⟨d2.sectors, [], -1, false⟩, R ++ List.map (fun b : List UInt8 => (b, G + 1)) new, G2), Le.of ?_ ?_ rfl rfl rfl, ⟨by dsimp only; omega, ⟨rfl, rfl, by simp, t3.len, t3.inv⟩, rfl, by dsimp only; omega, by dsimp only; omega⟩, by dsimp only; omega⟩
       · simp only [hJr]
         (repeat' (first|exact trivial|refine aq ?_ ?_|exact oq|fail))
       · (repeat' (first|exact trivial|refine aq ?_ ?_|refine Exists.intro _ (aq rfl ?_)|exact oq|fail))
     · refine absurd ?_ ‹¬ _ = _›
       rfl
   · rw [t1] at jsp
     have po2 := open_spec ⟨d2.sectors, [], -1, false⟩
     rw [t4.open] at po2
     have hZ : List.map (fun x : List UInt8 × Nat => x.1) (R ++ List.map (fun b : List UInt8 => (b, G + 1)) (new.take n)) = R.map (·.1) ++ new.take n := by simp [Function.comp_def]
     obtain ⟨R2, hR2⟩ : ∃ R2, R2 = R ++ List.map (fun b : List UInt8 => (b, G + 1)) (new.take n) := ⟨_, rfl⟩
     rw [← hR2] at hZ po2 t4
     have hZl : (List.map (fun x : List UInt8 × Nat => x.1) R2).length = (R.map (·.1)).length + n := by rw [hZ]; simp; omega
     have hJl : Jr.length = (R.map (·.1)).length + new.length := by rw [a1]; simp
     have hZJ : Jr.take (List.map (fun x : List UInt8 × Nat => x.1) R2).length = List.map (fun x : List UInt8 × Nat => x.1) R2 := by
       rw [hZl, hZ, a1, List.take_append, List.take_of_length_le (by omega), Nat.add_sub_cancel_left]
     obtain ⟨Z, hZZ⟩ : ∃ Z, Z = List.map (fun x : List UInt8 × Nat => x.1) R2 := ⟨_, rfl⟩
     rw [← hZZ] at hZl hZJ po2
     have qrZ := sameRecords_spec Z Z (by have := lensN_len Jr; omega)
     rw [beq_self_eq_true] at qrZ
     dsimp only at po2 t2
     refine .inl ⟨_, jsp, ?_⟩
     repeat' ((try conv => whnf); first|refine aq rfl ?_|fail)
     refine .inl ⟨_, restart_spec d2, ?_⟩
     repeat' ((try conv => whnf); first|refine aq rfl ?_|fail)
     refine .inl ⟨_, po2, ?_⟩
     repeat' ((try conv => whnf); first|refine aq rfl ?_|fail)
     refine Wp.draw (more := more3 true _ _) more3_det more3_ok FOK.wide rfl (by decide +kernel) (by conv => lhs; reduce) ?_
     repeat' ((try conv => whnf); first|(first|refine k3 ?_ ?_|refine k4 ?_ ?_) <;> intro hb <;> (try rw [lM] at hb) <;> try (exfalso; omega)|refine k5 (fun hb => ?_) fun hb => ?_|refine aq bd ?_|fail)
     · exfalso
       simp only [List.length_map] at hb hZl
       omega
     · exfalso
       simp only [List.length_map] at hb hZl hJl
       omega
     · refine ⟨_, qrZ.args ⟨PSub.refl _, sub_sl (by simp only [cut, List.length_map, Int.toNat_natCast, List.drop_zero, Nat.sub_zero, ← List.map_take, hZJ]), trivial⟩, ?_⟩
       skip
       refine .inl ⟨_, restart_spec d2, ?_⟩
       repeat' ((try conv => whnf); first|refine aq rfl ?_|refine s4 nm ?_|fail)
       refine ⟨(k + 1, ⟨d2.sectors, [], -1, false⟩, R2, G2), Le.of ?_ ?_ rfl rfl rfl, ⟨by dsimp only; omega, t4, rfl, by dsimp only; omega, by dsimp only; omega⟩, by dsimp only; omega⟩
       · simp only [← hZZ]
         (repeat' (first|exact trivial|refine aq ?_ ?_|exact oq|fail))
       · (repeat' (first|exact trivial|refine aq ?_ ?_|refine Exists.intro _ (aq rfl ?_)|exact oq|fail))
     · exact absurd (hb.symm.trans ‹cst = true›) (by simp)
 · have jsp := jsync_spec ⟨Jr, N, R.length⟩ d (by dsimp only; omega)
   rcases (hI).sync (by omega) (j := ⟨Jr, N, R.length⟩) (new := new) a1 (by dsimp only; omega) rfl (by dsimp only; omega) with ⟨d2, G2, t1, t2, t3, t4, t5⟩ | ⟨hl, d2, n, G2, t1, t2, t3, t4, t5⟩
   · rw [t1] at jsp
     dsimp only at jsp t2
     have hJr : List.map (fun x : List UInt8 × Nat => x.1) (R ++ List.map (fun b : List UInt8 => (b, G + 1)) new) = Jr := by rw [a1]; simp [Function.comp_def]
     refine .inl ⟨_, jsp, ?_⟩
     repeat' ((try conv => whnf); first|(first|refine k3 ?_ ?_|refine k4 ?_ ?_) <;> intro hb <;> (try rw [lM] at hb) <;> try (exfalso; omega)|refine aq rfl ?_|fail)
     · refine .inl ⟨_, qrJ, ?_⟩
       skip
       refine .inl ⟨_, restart_spec d2, ?_⟩
       repeat' ((try conv => whnf); first|refine aq rfl ?_|refine s4 nm ?_|fail)
       refine ⟨(k + 1, ⟨d2.sectors, [], -1, false⟩, R ++ List.map (fun b : List UInt8 => (b, G + 1)) new, G2), Le.of ?_ ?_ rfl rfl rfl, ⟨by dsimp only; omega, ⟨rfl, rfl, by simp, t3.len, t3.inv⟩, rfl, by dsimp only; omega, by dsimp only; omega⟩, by dsimp only; omega⟩
       · simp only [hJr]
         (repeat' (first|exact trivial|refine aq ?_ ?_|exact oq|fail))
       · (repeat' (first|exact trivial|refine aq ?_ ?_|refine Exists.intro _ (aq rfl ?_)|exact oq|fail))
     · refine absurd ?_ ‹¬ _ = _›
       rfl
   · exact absurd hleft hl
end Go.Proofs.Ytcgpikmaapallaa
