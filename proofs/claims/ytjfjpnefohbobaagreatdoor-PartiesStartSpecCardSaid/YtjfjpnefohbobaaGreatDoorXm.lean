/- Parties: the reference's Note; the laws that compare. Conditions: none. -/
import Derived.Test.YtjfjpnefohbobaaGreatDoorWd
import Derived.Test.YtjfjpnefohbobaaGreatDoorXl
import Derived.Test.YtjfjpnefohbobaaGreatDoorXe
import Derived.Test.YtjfjpnefohbobaaGreatDoorXg
set_option linter.unusedSimpArgs false
set_option linter.unusedVariables false
set_option maxRecDepth 20000
set_option maxHeartbeats 4000000
namespace Go.Proofs.YtjfjpnefohbobaaGreatDoor
open Go.Avc
attribute [local irreducible] PSub Wp PSpec Le Need Both
attribute [local irreducible] recE recD tagged sha headOf decF decode addR
end Go.Proofs.YtjfjpnefohbobaaGreatDoor
/- Parties: the laws that compare with the reference. Conditions: none. -/
namespace Go.Proofs.YtjfjpnefohbobaaGreatDoor
open Go.Avc
structure Party.cmp (p : Party) : Prop where
 seed : p.seed.length = 32
 jour : p.jour.records.length ≤ 1000000
 log : ∀ r ∈ p.log, r.prev.length = 32
theorem cmp_zero : zeroP.cmp := ⟨rfl, by decide, by intro r h; cases h⟩
theorem lens_len (l : List (List UInt8)) : l.length ≤ K.lensN l := by
 induction l with
 | nil => exact Nat.zero_le _
 | cons x l ih => simp only [K.lensN, List.map_cons, List.sum_cons, List.length_cons] at ih ⊢; omega
theorem Party.can.cmp {p : Party} (h : p.can) : p.cmp := ⟨h.seed, by have := h.jour; have := lens_len p.jour.records; omega, fun r hr => (h.log r hr).1.2.2.2.2⟩
theorem Party.cmp.disk {p : Party} (h : p.cmp) (d : K.Disk) : ({ p with disk := d } : Party).cmp := ⟨h.1, h.2, h.3⟩
theorem cmp_crash {p : Party} (h : p.cmp) (left : Int) : (p.crash left).1.cmp := by
 unfold Party.crash
 split
 · split
   · exact h.disk _
   · exact cmp_zero
 · exact cmp_zero
theorem cmp_new (kind id n : Int) {seed : List UInt8} (h : seed.length = 32) : (newP kind id n seed).1.cmp := by
 unfold newP
 split
 · exact cmp_zero
 · split
   · rename_i hn
     exact ⟨h, jr_len (newD_ok hn).1, by intro r h; cases h⟩
   · exact cmp_zero
theorem cmp_restart {p q : Party} {e : Int} (h : p.cmp) (hR : RestIs p q e) : q.cmp := by
 cases hR with
 | form => exact cmp_zero
 | dec => exact cmp_zero
 | own => exact cmp_zero
 | ok hf ha ho =>
   refine ⟨h.seed, jr_len hf.2.2, fun r hr => ?_⟩
   obtain ⟨b, hb', rfl⟩ := List.mem_map.1 hr
   have hbl := recs_len hf.2.2 b hb'
   rcases dec_ok (decF_is (b := b) (by omega)) with ⟨_, h2, h3⟩ | ⟨h1, _⟩
   · exact h2.2.2.2.2
   · exact absurd (ha b hb') h1
theorem rsame_self {p : Party} (h : p.cmp) : PSpec Tryz.prog 9 [.agg (encP p), .agg (encP p)] (.bool true) := by
 have q := rsameP_spec p p h.seed h.seed h.jour h.log h.log
 rw [sameP_true rfl] at q
 exact q
theorem flat_singles (l : List PV) : (singles l).flatten = l := by
 induction l with
 | nil => rfl
 | cons x l ih => simp only [singles, List.map_cons, List.flatten_cons] at ih ⊢; rw [ih]; rfl
attribute [local irreducible] PSub Wp PSpec Le Need Both
attribute [local irreducible] recE recD tagged sha headOf decF decode addR
theorem startSpec_law (kind id n : Int) (seed : List UInt8) (p : Party) (left : Int) (hs : seed.length = 32) (hp : p.arg) : PSpec Tryz.prog 4 [.int kind, .int id, .int n, .agg (dcells seed), .agg (encP p), .int left] (.bool true) := by
 have q1 := rfewP_spec p
 have hc := fun h => fewP_can hp h
 obtain ⟨f, hf⟩ : ∃ f, f = fewP p := ⟨_, rfl⟩
 rw [← hf] at q1 hc
 have a1 := pnew_spec kind id n seed
 have a2 := rpnew_spec kind id n seed
 have a3 := rsame_self (cmp_new kind id n hs)
 obtain ⟨⟨xa, ea⟩, hxa⟩ : ∃ x, x = newP kind id n seed := ⟨_, rfl⟩
 rw [← hxa] at a1 a2 a3
 have c1 := pcrash_spec p left
 have c2 := rpcrash_spec p left
 have c3 := fun h => rsame_self (cmp_crash (hc h).1.cmp left)
 obtain ⟨⟨xc, ec⟩, hxc⟩ : ∃ x, x = p.crash left := ⟨_, rfl⟩
 rw [← hxc] at c1 c2 c3
 obtain ⟨xr, er, hR⟩ := RestIs.ex p
 have r1 := prestart_spec p xr er hR
 have r2 := rprestart_spec p xr er hR
 have r3 := fun h => rsame_self (cmp_restart (hc h).1.cmp hR)
 have n1 := fun h => pcount_spec p kind (by have := (hc h).2.1; omega)
 have n2 := fun h => rpcount_spec p kind (by have := (hc h).2.1; omega)
 obtain ⟨N, hN⟩ : ∃ N, N = countL p.log kind := ⟨_, rfl⟩
 rw [← hN] at n1 n2
 obtain ⟨b1, hb1⟩ : ∃ b, b = true := ⟨_, rfl⟩
 rw [← hb1] at a3
 rw [← flat_singles (dcells seed)] at a1 a2
 refine PSpec.of_vc (fun Γ => more6 false Γ.P Γ.fx) (fun Γ => more6_ok) Tryz.func4 rfl Tryz.call4 (by simp) ?_
 rintro ⟨P, N, w0, X, β0, fx, y, hy, pk, df⟩ rfl rfl rfl hoff rfl; change y.on = false at hoff
 repeat' ((try conv => whnf); first|refine aq rfl ?_|refine ⟨_, singles_rfl _, ?_⟩|fail)
 refine .inl ⟨_, psane_spec, ?_⟩
 skip
 refine .inl ⟨_, q1, ?_⟩
 repeat' ((try conv => whnf); first|(first|refine k3 ?_ ?_|refine k4 ?_ ?_) <;> intro hb <;> (try rw [lM] at hb) <;> try (exfalso; omega)|refine k5 (fun hb => ?_) fun hb => ?_|refine .inr ⟨rfl, rfl, rfl, ?_⟩|fail)
 any_goals exact PSub.val_bool rfl
 · have hft : f = true := by assumption
   have c4 := c3 hft
   have r4 := r3 hft
   rw [← hb1] at c4 r4
   refine .inl ⟨_, a1, ?_⟩
   repeat' ((try conv => whnf); first|refine aq rfl ?_|refine .inr ⟨rfl, rfl, rfl, ?_⟩|fail)
   refine .inl ⟨_, a2, ?_⟩
   repeat' ((try conv => whnf); first|refine aq rfl ?_|fail)
   refine .inl ⟨_, c1, ?_⟩
   repeat' ((try conv => whnf); first|refine aq rfl ?_|fail)
   refine .inl ⟨_, c2, ?_⟩
   repeat' ((try conv => whnf); first|refine aq rfl ?_|fail)
   refine .inl ⟨_, r1, ?_⟩
   repeat' ((try conv => whnf); first|refine aq rfl ?_|fail)
   refine .inl ⟨_, r2, ?_⟩
   repeat' ((try conv => whnf); first|refine aq rfl ?_|fail)
   refine Wp.draw (more := more6 true _ _) more6_det more6_ok FOK.wide rfl (by decide +kernel) (by conv => lhs; reduce) ?_
   skip
   refine ⟨_, a3, ?_⟩
   repeat' ((try conv => whnf); first|(first|refine k3 ?_ ?_|refine k4 ?_ ?_) <;> intro hb <;> (try rw [lM] at hb) <;> try (exfalso; omega)|refine k6 (fun hb => ?_) fun hb => ?_|fail)
   rotate_left
   · exact absurd hb1 (by simp_all)
   refine ⟨_, c4, ?_⟩
   repeat' ((try conv => whnf); first|(first|refine k3 ?_ ?_|refine k4 ?_ ?_) <;> intro hb <;> (try rw [lM] at hb) <;> try (exfalso; omega)|refine k6 (fun hb => ?_) fun hb => ?_|fail)
   rotate_left
   · exact absurd hb1 (by simp_all)
   refine ⟨_, r4, ?_⟩
   repeat' ((try conv => whnf); first|(first|refine k3 ?_ ?_|refine k4 ?_ ?_) <;> intro hb <;> (try rw [lM] at hb) <;> try (exfalso; omega)|refine k6 (fun hb => ?_) fun hb => ?_|fail)
   rotate_left
   · exact absurd hb1 (by simp_all)
   refine ⟨_, n1 hft, ?_⟩
   skip
   refine ⟨_, n2 hft, ?_⟩
   skip
   exact PSub.val_bool (decide_eq_true rfl)
 · have hft : f = true := by assumption
   have c4 := c3 hft
   have r4 := r3 hft
   rw [← hb1] at c4 r4
   refine .inl ⟨_, a1, ?_⟩
   repeat' ((try conv => whnf); first|refine aq rfl ?_|refine .inr ⟨rfl, rfl, rfl, ?_⟩|fail)
   refine .inl ⟨_, a2, ?_⟩
   repeat' ((try conv => whnf); first|refine aq rfl ?_|fail)
   refine .inl ⟨_, c1, ?_⟩
   repeat' ((try conv => whnf); first|refine aq rfl ?_|fail)
   refine .inl ⟨_, c2, ?_⟩
   repeat' ((try conv => whnf); first|refine aq rfl ?_|fail)
   refine .inl ⟨_, r1, ?_⟩
   repeat' ((try conv => whnf); first|refine aq rfl ?_|fail)
   refine .inl ⟨_, r2, ?_⟩
   repeat' ((try conv => whnf); first|refine aq rfl ?_|fail)
   refine Wp.draw (more := more6 true _ _) more6_det more6_ok FOK.wide rfl (by decide +kernel) (by conv => lhs; reduce) ?_
   skip
   refine ⟨_, a3, ?_⟩
   repeat' ((try conv => whnf); first|(first|refine k3 ?_ ?_|refine k4 ?_ ?_) <;> intro hb <;> (try rw [lM] at hb) <;> try (exfalso; omega)|refine k6 (fun hb => ?_) fun hb => ?_|fail)
   rotate_left
   · exact absurd hb1 (by simp_all)
   refine ⟨_, c4, ?_⟩
   repeat' ((try conv => whnf); first|(first|refine k3 ?_ ?_|refine k4 ?_ ?_) <;> intro hb <;> (try rw [lM] at hb) <;> try (exfalso; omega)|refine k6 (fun hb => ?_) fun hb => ?_|fail)
   rotate_left
   · exact absurd hb1 (by simp_all)
   refine ⟨_, r4, ?_⟩
   repeat' ((try conv => whnf); first|(first|refine k3 ?_ ?_|refine k4 ?_ ?_) <;> intro hb <;> (try rw [lM] at hb) <;> try (exfalso; omega)|refine k6 (fun hb => ?_) fun hb => ?_|fail)
   rotate_left
   · exact absurd hb1 (by simp_all)
   refine ⟨_, n1 hft, ?_⟩
   skip
   refine ⟨_, n2 hft, ?_⟩
   skip
   exact PSub.val_bool (decide_eq_true rfl)
end Go.Proofs.YtjfjpnefohbobaaGreatDoor
