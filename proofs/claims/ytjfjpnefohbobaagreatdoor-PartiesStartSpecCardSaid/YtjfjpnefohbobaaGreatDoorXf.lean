/- Parties: the chapter's examples. Conditions: none. -/
import Derived.Test.YtjfjpnefohbobaaGreatDoorWd
import Derived.Test.YtjfjpnefohbobaaGreatDoorXe
import Derived.Test.YtjfjpnefohbobaaGreatDoorWn
set_option linter.unusedSimpArgs false
set_option linter.unusedVariables false
set_option maxRecDepth 20000
set_option maxHeartbeats 4000000
namespace Go.Proofs.YtjfjpnefohbobaaGreatDoor
open Go.Avc
theorem zeroP_can : zeroP.can := ⟨(by intro x h; cases h), by decide, by decide, rfl⟩
theorem zeroP_not : ¬ zeroP.valid := fun h => absurd h.formed.1.1 (by decide)
theorem sub_zeroC : PSub (.agg zcells) (.agg (encP zeroP)) := PSub.agg ⟨PSub.refl _, PSub.refl _, sub_dc ⟨PSub.nil 1, PSub.nil 2, PSub.refl _, PSub.refl _, PSub.nil 1, PSub.refl _, PSub.refl _, PSub.nil 37, trivial⟩⟩
theorem rest_to {p q : Party} (hv : p.valid) (hl : ∀ r ∈ p.log, r.can) (hq : q = { p with disk := rst p.disk }) : RestIs p q 0 := by
 obtain ⟨q', e, h⟩ := RestIs.ex p
 obtain ⟨rfl, h2, _⟩ := restart_valid hv hl h
 rw [hq, ← h2]
 exact h
attribute [local irreducible] PSub Wp PSpec Le Need Both
attribute [local irreducible] recE recD tagged sha headOf decF decode addR
theorem psane_spec : PSpec Tryz.prog 5 [] (.bool true) := by
 obtain ⟨a, c, d1, d2, h1, ha, h2, hr1, h3, h4, h5, hc, h6, h7⟩ := examples pA_valid pA_inv rfl rfl pA_recs2 pA_many rfl
 have hlog : a.log = [mA] := by rw [ha]; rfl
 have hmc : mA.can := ⟨mA_ok, by decide⟩
 have hlc : ∀ x ∈ a.log, x.can := by rw [hlog]; intro x hx; rw [List.mem_singleton.1 hx]; exact hmc
 have haj : K.lensN a.jour.records ≤ 50000 := by
   rw [h2.written, hlog]
   have := mA_len
   simp only [K.lensN, List.map_cons, List.map_nil, List.sum_cons, List.sum_nil]
   omega
 have had : a.disk = d1 := by rw [ha]; rfl
 have hac : a.can := ⟨hlc, by rw [hlog]; decide, haj, by rw [ha]; rfl⟩
 obtain ⟨T, hT⟩ : ∃ T : Party, T = { a with disk := { d1 with left := 0 } } := ⟨_, rfl⟩
 have hTc : T.can := by rw [hT]; exact ⟨hac.1, hac.2, hac.3, hac.4⟩
 have hcc : c.can := by rw [hc]; exact ⟨hac.1, hac.2, hac.3, hac.4⟩
 rw [← hT] at h3 h5
 obtain ⟨D, hD⟩ : ∃ D : Party, D = { c with disk := rst c.disk } := ⟨_, rfl⟩
 have p1 := pnew_spec 4 3 12 seed5
 have p2 := pnew_spec 0 0 8 z32
 have p3 := pnew_spec 1 16 8 z32
 rw [pA_new] at p1
 rw [p0_new] at p2
 rw [p1_new] at p3
 have p4 := prestart_spec pA pA 0 (rest_to pA_valid pA_can.log rfl)
 have p5 := pnote_spec pA 5 7 [97, 98] pA_can (by decide)
 rw [h1] at p5
 have p6 := prestart_spec a a 0 (rest_to h2 hlc (by rw [had, hr1, ← had]))
 have p7 := pcrash_spec a 0
 rw [h3] at p7
 have p8 := pnote_spec T 5 8 [] hTc (by decide)
 rw [h5] at p8
 have p9 := prestart_spec c D 0 (rest_to h6 hcc.log hD)
 have pa := pcheck_spec zeroP zeroP_can
 rw [check_not zeroP_not] at pa
 have pb := pcheck_spec pA pA_can
 rw [check_valid pA_valid] at pb
 have pc := pcheck_spec a hac
 rw [check_valid h2] at pc
 have pd := pcheck_spec c hcc
 rw [check_valid h6] at pd
 have pe := rsameP_spec pA pA rfl rfl (by rw [pA_recs2]; decide) (by intro r h; cases h) (by intro r h; cases h)
 rw [sameP_true rfl] at pe
 have pf := rsameP_spec a a hac.4 hac.4 (by rw [h2.written, hlog]; decide) (fun r hr => (hlc r hr).1.2.2.2.2) (fun r hr => (hlc r hr).1.2.2.2.2)
 rw [sameP_true rfl] at pf
 have hDl : D.log = [mA] := by rw [hD, hc]; exact hlog
 have pg := pcount_spec D 5 (by rw [hDl]; decide)
 have ph := pcount_spec pA 5 (by decide)
 rw [hDl] at pg
 have hDs : D.disk.stopped = false := by rw [hD]; rfl
 have hcs : c.disk.stopped = true := by rw [hc]; exact h7
 have hcl : c.log.length = 1 := by rw [hc]; show a.log.length = 1; rw [hlog]; rfl
 have hal : a.log.length = 1 := by rw [hlog]; rfl
 have hab : ∀ h : 0 < a.log.length, a.log[0].body = [97, 98] := by simp only [hlog]; intro _; rfl
 have hap : ∀ h : 0 < a.log.length, a.log[0].party = 3 := by simp only [hlog]; intro _; rfl
 have hab2 : ∀ h : 0 < a.log.length, (⟨a.log[0].body.toArray⟩ : ByteArray) = ⟨#[97, 98]⟩ := fun h => by rw [hab h]
 have hDl1 : D.log.length = 1 := by rw [hDl]; rfl
 obtain ⟨z, hz⟩ : ∃ z : Int, z = 0 := ⟨_, rfl⟩
 obtain ⟨n, hn⟩ : ∃ z : Int, z = 510 := ⟨_, rfl⟩
 obtain ⟨w, hw⟩ : ∃ z : Int, z = 470 := ⟨_, rfl⟩
 obtain ⟨o, ho⟩ : ∃ z : Int, z = 1 := ⟨_, rfl⟩
 obtain ⟨b0, hb0⟩ : ∃ b, b = false := ⟨_, rfl⟩
 obtain ⟨b1, hb1⟩ : ∃ b, b = true := ⟨_, rfl⟩
 have pg' : PSpec Tryz.prog 18 [.agg (encP D), .int 5] (.int o) := by rw [ho]; exact pg
 have ph' : PSpec Tryz.prog 18 [.agg (encP pA), .int 5] (.int z) := by rw [hz]; exact ph
 obtain ⟨P0, hP0⟩ : ∃ p, p = pA := ⟨_, rfl⟩
 obtain ⟨Z, hZ⟩ : ∃ p, p = zeroP := ⟨_, rfl⟩
 rw [← hP0] at p1 p4 p5 pb pe ph'
 have pa' : PSpec Tryz.prog 10 [.agg (encP zeroP)] (.int n) := by rw [hn]; exact pa
 rw [← hZ] at p2 p3
 have p7' : PSpec Tryz.prog 14 [.agg (encP a), .int 0] (encPE (T, z)) := by rw [hz]; exact p7
 rw [← hz] at p1 p4 p5 p6 p9 pb pc pd
 rw [← hn] at p2 p3
 rw [← hw] at p8
 rw [← hb1] at pe pf
 clear hP0 hZ
 refine PSpec.of_vc (fun Γ => more6 false Γ.P Γ.fx) (fun Γ => more6_ok) Tryz.func5 rfl Tryz.call5 (by simp) ?_
 rintro ⟨P, N, w0, X, β0, fx, y, hy, pk, df⟩ rfl rfl rfl hoff rfl; change y.on = false at hoff
 skip
 refine .inl ⟨_, p1.args ⟨PSub.refl _, PSub.refl _, PSub.refl _, PSub.of_eq (by unfold seed5; rfl), trivial⟩, ?_⟩
 repeat' ((try conv => whnf); first|refine aq rfl ?_|fail)
 refine .inl ⟨_, p2.args ⟨PSub.refl _, PSub.refl _, PSub.refl _, PSub.of_eq (by unfold z32; rfl), trivial⟩, ?_⟩
 repeat' ((try conv => whnf); first|refine aq rfl ?_|fail)
 refine .inl ⟨_, p3.args ⟨PSub.refl _, PSub.refl _, PSub.refl _, PSub.of_eq (by unfold z32; rfl), trivial⟩, ?_⟩
 repeat' ((try conv => whnf); first|refine aq rfl ?_|fail)
 refine .inl ⟨_, p4, ?_⟩
 repeat' ((try conv => whnf); first|refine aq rfl ?_|refine aq bd ?_|fail)
 refine .inl ⟨_, p5, ?_⟩
 repeat' ((try conv => whnf); first|refine aq rfl ?_|fail)
 refine .inl ⟨_, p6, ?_⟩
 repeat' ((try conv => whnf); first|refine aq rfl ?_|fail)
 refine .inl ⟨_, p7', ?_⟩
 repeat' ((try conv => whnf); first|refine aq rfl ?_|fail)
 refine .inl ⟨_, p8.args ⟨PSub.refl _, PSub.refl _, PSub.refl _, PSub.nil 1, trivial⟩, ?_⟩
 repeat' ((try conv => whnf); first|refine aq rfl ?_|fail)
 refine .inl ⟨_, p9, ?_⟩
 repeat' ((try conv => whnf); first|(first|refine k3 ?_ ?_|refine k4 ?_ ?_) <;> intro hb <;> (try rw [lM] at hb) <;> try (exfalso; omega)|refine aq rfl ?_|fail)
 refine .inl ⟨_, pa'.args ⟨sub_zeroC, trivial⟩, ?_⟩
 repeat' ((try conv => whnf); first|(first|refine k3 ?_ ?_|refine k4 ?_ ?_) <;> intro hb <;> (try rw [lM] at hb) <;> try (exfalso; omega)|fail)
 refine .inl ⟨_, pb, ?_⟩
 repeat' ((try conv => whnf); first|(first|refine k3 ?_ ?_|refine k4 ?_ ?_) <;> intro hb <;> (try rw [lM] at hb) <;> try (exfalso; omega)|fail)
 refine .inl ⟨_, pc, ?_⟩
 repeat' ((try conv => whnf); first|(first|refine k3 ?_ ?_|refine k4 ?_ ?_) <;> intro hb <;> (try rw [lM] at hb) <;> try (exfalso; omega)|fail)
 refine .inl ⟨_, pd, ?_⟩
 repeat' ((try conv => whnf); first|(first|refine k3 ?_ ?_|refine k4 ?_ ?_) <;> intro hb <;> (try rw [lM] at hb) <;> try (exfalso; omega)|fail)
 refine .inl ⟨_, pe, ?_⟩
 repeat' ((try conv => whnf); first|refine k6 (fun hb => ?_) fun hb => ?_|fail)
 any_goals (first
   | (refine absurd (Eq.trans (Eq.symm hb1) (?_ : b1 = false)) (by decide); assumption)
   | (refine absurd (Eq.trans (Eq.symm hb0) (?_ : b0 = true)) (by decide); assumption)
   | (refine absurd (Eq.trans (Eq.symm hcs) (?_ : c.disk.stopped = false)) (by decide); assumption)
   | (refine absurd (Eq.trans (Eq.symm hDs) (?_ : D.disk.stopped = true)) (by decide); assumption)
   | (refine absurd (congrArg (fun n : Nat => (n : Int)) hal) ?_; assumption)
   | (refine absurd (congrArg (fun n : Nat => (n : Int)) hcl) ?_; assumption)
   | (refine absurd (congrArg (fun n : Nat => (n : Int)) hDl1) ?_; assumption))
 refine .inl ⟨_, pf, ?_⟩
 repeat' ((try conv => whnf); first|(first|refine k3 ?_ ?_|refine k4 ?_ ?_) <;> intro hb <;> (try rw [lM] at hb) <;> try (exfalso; omega)|refine k5 (fun hb => ?_) fun hb => ?_|refine k6 (fun hb => ?_) fun hb => ?_|fail)
 any_goals (first
   | (refine absurd (Eq.trans (Eq.symm hb1) (?_ : b1 = false)) (by decide); assumption)
   | (refine absurd (Eq.trans (Eq.symm hb0) (?_ : b0 = true)) (by decide); assumption)
   | (refine absurd (Eq.trans (Eq.symm hcs) (?_ : c.disk.stopped = false)) (by decide); assumption)
   | (refine absurd (Eq.trans (Eq.symm hDs) (?_ : D.disk.stopped = true)) (by decide); assumption)
   | (refine absurd (congrArg (fun n : Nat => (n : Int)) hal) ?_; assumption)
   | (refine absurd (congrArg (fun n : Nat => (n : Int)) hcl) ?_; assumption)
   | (refine absurd (congrArg (fun n : Nat => (n : Int)) hDl1) ?_; assumption))
 refine .inl ⟨_, pg', ?_⟩
 repeat' ((try conv => whnf); first|(first|refine k3 ?_ ?_|refine k4 ?_ ?_) <;> intro hb <;> (try rw [lM] at hb) <;> try (exfalso; omega)|fail)
 refine .inl ⟨_, ph', ?_⟩
 repeat' ((try conv => whnf); first|(first|refine k3 ?_ ?_|refine k4 ?_ ?_) <;> intro hb <;> (try rw [lM] at hb) <;> try (exfalso; omega)|refine s5 nm nm ?_|refine s7 ?_|fail)
 any_goals (first
   | (refine absurd (Eq.trans (Eq.symm hb1) (?_ : b1 = false)) (by decide); assumption)
   | (refine absurd (Eq.trans (Eq.symm hb0) (?_ : b0 = true)) (by decide); assumption)
   | (refine absurd (Eq.trans (Eq.symm hcs) (?_ : c.disk.stopped = false)) (by decide); assumption)
   | (refine absurd (Eq.trans (Eq.symm hDs) (?_ : D.disk.stopped = true)) (by decide); assumption)
   | (refine absurd (congrArg (fun n : Nat => (n : Int)) hal) ?_; assumption)
   | (refine absurd (congrArg (fun n : Nat => (n : Int)) hcl) ?_; assumption)
   | (refine absurd (congrArg (fun n : Nat => (n : Int)) hDl1) ?_; assumption))
 · exact PSub.val_bool (decide_eq_true (hap _))
 · exact absurd (hab2 _) (by assumption)
end Go.Proofs.YtjfjpnefohbobaaGreatDoor
/- Parties: the law PartiesAgain. Conditions: none. -/
namespace Go.Proofs.YtjfjpnefohbobaaGreatDoor
open Go.Avc
structure Party.arg (p : Party) : Prop where
 log : ∀ r ∈ p.log, r.ok
 jour : ∀ b ∈ p.jour.records, b.length ≤ 140737488355328
 seed : p.seed.length = 32
theorem fewP_can {p : Party} (h : p.arg) (hf : fewP p = true) : p.can ∧ p.log.length ≤ 30 ∧ K.lensN p.jour.records ≤ 13000 := by
 simp only [fewP, Bool.and_eq_true] at hf
 obtain ⟨h1, h2, h3⟩ := few_can h.log hf.2.2.2
 have := jfew_of h.jour hf.2.2.1
 exact ⟨⟨h1, by omega, by omega, h.seed⟩, h2, this⟩
attribute [local irreducible] PSub Wp PSpec Le Need Both
attribute [local irreducible] recE recD tagged sha headOf decF decode addR
end Go.Proofs.YtjfjpnefohbobaaGreatDoor
/- Parties: how the arguments of the laws open; the listed table. Conditions: none. -/
namespace Go.Proofs.YtjfjpnefohbobaaGreatDoor
open Go.Avc
theorem op_bools : Opn Tryz.prog 4 (fun ps => ∃ b : Bool, ps = [.bool b]) := (Opn.bool Tryz.underlying4).mono fun _ ⟨b, h⟩ => ⟨b, h⟩
theorem op_sectors : Opn Tryz.prog 24 (fun ps => ∃ l : List (List UInt8), ps = [K.encS l] ∧ ∀ b ∈ l, b.length ≤ 140737488355328) :=
 (Opn.slice (n := 1) Tryz.underlying24 (by kernel_rfl) (by omega) op_bytes).mono fun _ ⟨rows, h, hr, _⟩ => by
   obtain ⟨l, rfl, hl⟩ := rows_map (f := fun b : List UInt8 => [encB b]) (R := fun b => b.length ≤ 140737488355328) (fun r h => hr r h)
   exact ⟨l, h, hl⟩
theorem op_write : Opn Tryz.prog 108 (fun ps => ∃ w : Int × List UInt8, ps = K.encW w) :=
 (Opn.struct (Qs := [_, _]) Tryz.underlying108 (by kernel_rfl) (fun fuel => ⟨op_int fuel, op_bytes fuel, trivial⟩)).mono fun _ h => by
   obtain ⟨_, ⟨a, rfl, _⟩, _, ⟨_, ⟨b, rfl, _⟩, _, rfl, rfl⟩, rfl⟩ := h
   exact ⟨(a, b), rfl⟩
theorem op_writes : Opn Tryz.prog 25 (fun ps => ∃ l : List (Int × List UInt8), ps = [K.encWs l]) :=
 (Opn.slice (n := 2) Tryz.underlying25 (by kernel_rfl) (by omega) op_write).mono fun _ ⟨rows, h, hr, _⟩ => by
   obtain ⟨l, rfl, _⟩ := rows_map (f := K.encW) (R := fun _ => True) (fun r h => by obtain ⟨w, hw⟩ := hr r h; exact ⟨w, hw, trivial⟩)
   exact ⟨l, h⟩
theorem op_disk : Opn Tryz.prog 27 (fun ps => ∃ d : K.Disk, ps = diskC d) :=
 (Opn.struct (Qs := [_, _, _, _]) Tryz.underlying27 (by kernel_rfl) (fun fuel => ⟨op_sectors fuel, op_writes fuel, op_int fuel, op_bools fuel, trivial⟩)).mono fun _ h => by
   obtain ⟨_, ⟨a, rfl, _⟩, _, ⟨_, ⟨b, rfl⟩, _, ⟨_, ⟨c, rfl, _⟩, _, ⟨_, ⟨d, rfl⟩, _, rfl, rfl⟩, rfl⟩, rfl⟩, rfl⟩ := h
   exact ⟨⟨a, b, c, d⟩, rfl⟩
theorem op_jour : Opn Tryz.prog 29 (fun ps => ∃ j : K.Jour, ps = jourC j ∧ ∀ b ∈ j.records, b.length ≤ 140737488355328) :=
 (Opn.struct (Qs := [_, _, _]) Tryz.underlying29 (by kernel_rfl) (fun fuel => ⟨op_sectors fuel, op_int fuel, op_int fuel, trivial⟩)).mono fun _ h => by
   obtain ⟨_, ⟨a, rfl, ha⟩, _, ⟨_, ⟨b, rfl, _⟩, _, ⟨_, ⟨c, rfl, _⟩, _, rfl, rfl⟩, rfl⟩, rfl⟩ := h
   exact ⟨⟨a, b, c⟩, rfl, ha⟩
theorem op_party : Opn Tryz.prog 32 (fun ps => ∃ p : Party, ps = encP p ∧ p.arg) :=
 (Opn.struct (Qs := [_, _, _, _, _, _]) Tryz.underlying32 (by kernel_rfl) (fun fuel => ⟨op_int fuel, op_int fuel, op_digest fuel, op_disk fuel, op_jour fuel, op_recs fuel, trivial⟩)).mono fun _ h => by
   obtain ⟨_, ⟨a, rfl, _⟩, _, ⟨_, ⟨b, rfl, _⟩, _, ⟨_, ⟨s, rfl, hs⟩, _, ⟨_, ⟨d, rfl⟩, _, ⟨_, ⟨j, rfl, hj⟩, _, ⟨_, ⟨l, rfl, hl⟩, _, rfl, rfl⟩, rfl⟩, rfl⟩, rfl⟩, rfl⟩, rfl⟩ := h
   exact ⟨⟨a, b, s, d, j, l⟩, rfl, hl, hj, hs⟩
end Go.Proofs.YtjfjpnefohbobaaGreatDoor
