/- Schedules: the search for a round. Conditions: none. -/
import Derived.Test.YthldjgjpokjliaaDoorWd
import Derived.Test.YthldjgjpokjliaaDoorWi
import Derived.Test.YthldjgjpokjliaaDoorWg
import Derived.Test.YthldjgjpokjliaaDoorWf
set_option linter.unusedSimpArgs false
set_option linter.unusedVariables false
set_option maxRecDepth 20000
set_option maxHeartbeats 4000000
namespace Go.Proofs.YthldjgjpokjliaaDoor
open Go.Avc
def encMs (al : List Nat) : PV := .sl 1 (al.map fun m : Nat => [PV.val (.int .u64 (m : Int))])
def planC (cp ms : List Nat) : List PV := (cp.map fun c : Nat => PV.int c) ++ [encMs ms]
theorem planC_drop {cp ms : List Nat} {r : Nat} (h : r < cp.length) : (planC cp ms).drop r = PV.int cp[r] :: (planC cp ms).drop (r + 1) := by
 have h1 : r < (planC cp ms).length := by simp [planC]; omega
 rw [List.drop_eq_getElem_cons h1]
 congr 1
 simp [planC, h]
theorem match_some {o : Option AV} {a : AV} {F : AV → Prop} (h : o = some a) (k : F a) : (match (generalizing := false) o with | some v => F v | none => False) := by subst h; exact k
theorem planC_at {cp ms : List Nat} {r : Nat} (h : r < cp.length) : nth (pures (List.drop (((r : Nat) : Int).toNat * 1) (planC cp ms))) 0 = some (.pure (.int (cp.getD r 0 : Nat))) := by
 rw [Int.toNat_natCast, Nat.mul_one, planC_drop h, getD_at h]
 rfl
theorem usPV_set {us : List ARow} {r : Nat} {x : ARow} : usPV (us.set r x) = (usPV us).set r [PV.val x.val] := by unfold usPV; rw [List.map_set]
theorem usPV_same {us : List ARow} {r k i : Nat} (hr : r < us.length) (hk : k < us[r].xs.length) : usPV (us.set r ⟨us[r].blk, us[r].cap, us[r].xs.set k i⟩) = usPV us := by
 have hne : us[r].xs ≠ [] := List.ne_nil_of_length_pos (by omega)
 have hv : ARow.val ⟨us[r].blk, us[r].cap, us[r].xs.set k i⟩ = us[r].val := by
   rw [ARow.val_some hne, ARow.val_some (by intro h; have := congrArg List.length h; simp at this; exact hne this)]
   simp
 rw [usPV_set, hv]
 unfold usPV
 refine List.ext_getElem (by simp) fun j h1 h2 => ?_
 rw [List.getElem_set]
 split
 · rename_i e; subst e; simp
 · rfl
attribute [local irreducible] PSub Wp PSpec Le Need Both
attribute [local irreducible] Turn StepW StepOK SSpec
theorem serve_spec (al cp ms : List Nat) (hal : al.length ≤ 1000) (halb : ∀ i, al.getD i 0 < 18446744073709551616) (hcp : cp.length = 64) (hcb : ∀ r, cp.getD r 0 ≤ 1000) : ∀ (m T i : Nat) (U : List (List Nat)), untried T < m → T < 18446744073709551616 → i < al.length → UOk al cp U →
   SSpec Tryd.prog 43 (.ptr [encMs al]) (.ptr [.ptr (planC cp ms)]) i T U (sQ al cp i T U) := by
 intro m
 induction m with
 | zero => intro T i U h; exact absurd h (Nat.not_lt_zero _)
 | succ m ih =>
 intro T i U hm hT hi hU
 refine SSpec.of_wp Tryd.func43 rfl Tryd.call43 (by decide) (tr := 7) rfl (kt := 100) (ku := 101) (by decide) ?_
 rintro c us Own we ⟨P, N, w0, X, β0, fx, y, hy, pk, df⟩ hcf hc1 hc2 hUs h64 rfl rfl rfl rfl hG
 subst hUs
 obtain ⟨fv, hfv⟩ : ∃ fv, fv = c.fv := ⟨_, rfl⟩
 have e0 : startS c us T i 100 101 70 = ⟨[(70, .gh (usCode us) false), (0, .int i), (1, .pure (.ptr [encMs al])), (2, .loc 100 0 0), (3, .loc 101 0 0), (4, .pure (.ptr [.ptr (planC cp ms)])), (5, .pure (.ptr [.val fv]))], [(100, some (cellA T)), (101, some (.row 1 (usPV us)))], [100, 101]⟩ := by
   unfold startS
   rw [hc1, hc2, hfv]
 show Wp _ _ _ _ (startS c us T i 100 101 70) (endS us _ 7 100 101 70)
 rw [e0]
 have lM : (al.map fun m : Nat => [PV.val (.int .u64 (m : Int))]).length = al.length := List.length_map ..
 have lU : (usPV us).length = us.length := by simp [usPV]
 have hai : al.getD i 0 = al[i] := getD_at hi 0
 have hab : al[i] < 18446744073709551616 := by have := halb i; rwa [hai] at this
 have d0 := bits_andNot al[i] T hab hT
 refine code_soundR (fun id => Nat.beq id 7 || Nat.beq id 11 || Nat.beq id 12 || Nat.beq id 13) (more := more8 false _ _) more8_ok FOK.wide _ ?_
 skip
 refine Wp.draw (more := more8 true _ _) more8_det more8_ok FOK.wide rfl (by decide +kernel) (by conv => lhs; reduce) ?_
 repeat' ((try conv => whnf); first|refine s5 nm nm ?_|fail)
 refine ⟨_, d0, ?_⟩
 skip
 refine Wp.loop (fun T1 : Nat => ⟨[(70, .gh (usCode us) false), (0, .int i), (1, .pure (.ptr [encMs al])), (2, .loc 100 0 0), (3, .loc 101 0 0), (4, .pure (.ptr [.ptr (planC cp ms)])), (5, .pure (.ptr [.val fv])), (8, .pure (.val (.int .u64 (dif al[i] T1 : Nat))))], [(100, some (cellA T1)), (101, some (.row 1 (usPV us)))], [100, 101]⟩) (LI al cp T (us.map ARow.xs)) untried T
   (Le.of ?_ ?_ rfl rfl rfl) (LI.start hT) ?_
 · (repeat' (first|exact trivial|refine aq ?_ ?_|exact oq|fail))
 · (repeat' (first|exact trivial|exact rfl|refine aq ?_ ?_|refine Exists.intro _ (aq rfl ?_)|exact oq|fail))
 intro T1 hL
 by_cases h0 : dif al[i] T1 = 0
 · rw [h0]
   refine code_soundR (fun id => Nat.beq id 7 || Nat.beq id 11 || Nat.beq id 12 || Nat.beq id 13) (more := more8 false _ _) more8_ok FOK.wide _ ?_
   skip
   exact ⟨false, T1, us, h64, fun _ => rfl, rfl, rfl, rfl, rfl, rfl, hL.1, hL.2.1, by rw [hai]; exact dif_zero h0, hL.2.2⟩
 have hlt := dif_lt (b := T1) hab
 obtain ⟨c1, c2, c3⟩ := ctz_bit h0 hlt
 have qz := tz_spec _ hlt
 obtain ⟨r, hr⟩ : ∃ r, r = Lib.ctz 64 (dif al[i] T1) := ⟨_, rfl⟩
 rw [← hr] at c1 c2 c3 qz
 have hsh := shl_u64 r c1
 have hgr : (us.map ARow.xs).getD r [] = us[r].xs := by rw [getD_at (by rw [List.length_map]; omega), List.getElem_map]
 have cb : al[i].testBit r = true := by rw [dif_bit] at c2; cases h : al[i].testBit r <;> simp [h] at c2 ⊢
 have hT1 : T1.testBit r = false := by rw [dif_bit] at c2; cases h : T1.testBit r <;> simp [h] at c2 ⊢
 have hTr : T.testBit r = false := by cases h : T.testBit r with | false => rfl | true => (have := hL.2.1 r h; rw [hT1] at this; cases this)
 have hor := bits_or_u64_nat T1 (2 ^ r) hL.1 (pow_lt c1)
 refine code_soundR (fun id => Nat.beq id 7 || Nat.beq id 11 || Nat.beq id 12 || Nat.beq id 13) (more := more8 false _ _) more8_ok FOK.wide _ ?_
 repeat' ((try conv => whnf); first|(first|refine k3 ?_ ?_|refine k4 ?_ ?_) <;> intro hb <;> (try rw [lM] at hb) <;> try (exfalso; omega)|fail)
 refine .inl ⟨_, qz, ?_⟩
 skip
 refine Wp.draw (more := more8 true _ _) more8_det more8_ok FOK.wide rfl (by decide +kernel) (by conv => lhs; reduce) ?_
 repeat' ((try conv => whnf); first|refine aq bd ?_|fail)
 refine ⟨_, hsh, ?_⟩
 skip
 refine ⟨_, hor, ?_⟩
 repeat' ((try conv => whnf); first|refine aq rfl ?_|fail)
 refine Wp.draw (more := more8 true _ _) more8_det more8_ok FOK.wide rfl (by decide +kernel) (by conv => lhs; reduce) ?_
 repeat' ((try conv => whnf); first|refine aq rfl ?_|refine aq bd ?_|refine ⟨_, _, getMapN nm, rfl, ?_⟩|fail)
 conv => whnf
 refine match_some (planC_at (cp := cp) (ms := ms) (r := r) (by omega)) ?_
 repeat' ((try conv => whnf); first|(first|refine k3 ?_ ?_|refine k4 ?_ ?_) <;> intro hb <;> (try rw [lM] at hb) <;> try (exfalso; omega)|refine aq rfl ?_|refine aq bd ?_|refine ⟨_, _, getMapN nm, rfl, ?_⟩|fail)
 · rename_i hb
   have hb : us[r].xs.length < cp.getD r 0 := Int.ofNat_lt.1 hb
   simp only [Int.toNat_natCast]
   refine Wp.cut3 [_, _, _, _] [_, _, _] (l3 := [_, _]) (more := more8 false _ _) more8_ok FOK.wide rfl ?_
   repeat' ((try conv => whnf); first|refine aq rfl ?_|refine aq bd ?_|refine ⟨_, _, getMapN nm, rfl, ?_⟩|fail)
   simp only [Int.toNat_natCast]
   have hcr : us[r].xs.length < 1000 := Nat.lt_of_lt_of_le hb (hcb r)
   have hQ : sQ al cp i T (us.map ARow.xs) true (T1 ||| 2 ^ r) ((us.map ARow.xs).set r (us[r].xs ++ [i])) := by
     have h := sQ_add (T2 := T1 ||| 2 ^ r) hU hi c1 (by rw [hai]; exact cb) hTr (by rw [hgr]; exact hb)
     rwa [hgr] at h
   by_cases hn : us[r].xs = []
   · rw [ARow.val_nil hn]
     refine Turn.same ?_
     repeat' ((try conv => whnf); first|refine aq bd ?_|fail)
     refine Turn.give (k := 49) (xs := [i]) hG.toUCtx (us := us) (r := r) rfl (by omega) hn rfl (by simp) rfl (t := 49) (Nat.ne_of_beq_eq_false rfl) rfl fun b cap => ?_
     repeat' ((try conv => whnf); first|refine aq rfl ?_|refine aq bd ?_|refine .inl ⟨rfl, rfl, bd, rfl, rfl, ?_⟩|fail)
     refine ⟨true, _, us.set r ⟨b, cap, [i]⟩, by rw [List.length_set]; exact h64, (fun h => by cases h), rfl, rfl, rfl, ?_, ?_⟩
     · rw [usPV_set]; rfl
     · rw [List.map_set]; rw [hn] at hQ; exact hQ
   · refine Turn.take (k := 102) hG.toUCtx (us := us) (r := r) rfl (by omega) hn rfl rfl (t := 46) (Nat.ne_of_beq_eq_false rfl) rfl ?_
     repeat' ((try conv => whnf); first|refine aq bd ?_|fail)
     refine ⟨(rowPV_len _).symm, by rw [rowPV_len]; show (us[r].xs.length + 1) * 8 ≤ _; omega, by rw [rowPV_len]; show us[r].xs.length + 1 ≤ _; omega, ?_⟩
     skip
     have e1 : rowPV us[r].xs ++ [[PV.int i]] = rowPV (us[r].xs ++ [i]) := by simp [rowPV]
     refine Turn.give (k := 49) (xs := us[r].xs ++ [i]) hG.toUCtx (us := us.set r nilRow) (r := r) rfl (by simp; omega) (by simp; rfl) rfl (by simp) (by rw [← e1]; rfl) (t := 49) (Nat.ne_of_beq_eq_false rfl) (by show AV.lsl 49 0 ((rowPV us[r].xs).length + 1) = _; rw [rowPV_len, List.length_append]; rfl) fun b cap => ?_
     repeat' ((try conv => whnf); first|refine aq rfl ?_|refine aq bd ?_|refine .inl ⟨rfl, rfl, bd, rfl, rfl, ?_⟩|fail)
     rw [List.set_set]
     refine ⟨true, _, us.set r ⟨b, cap, us[r].xs ++ [i]⟩, by rw [List.length_set]; exact h64, (fun h => by cases h), rfl, rfl, rfl, ?_, ?_⟩
     · rw [usPV_set]; rfl
     · rw [List.map_set]; exact hQ
 · rename_i hb
   have hb : ¬ us[r].xs.length < cp.getD r 0 := fun h => hb (Int.ofNat_lt.2 h)
   have hfull : cp.getD r 0 ≤ ((us.map ARow.xs).getD r []).length := by rw [hgr]; omega
   have hroom : us[r].xs.length ≤ 1000 := by have := hU.room r; rw [hgr] at this; exact Nat.le_trans this (hcb r)
   have hM0 := hL.mid c1 hfull
   simp only [Int.toNat_natCast]
   skip
   refine Wp.loop (fun kt : Nat × Nat => ⟨[(70, .gh (usCode us) false), (0, .int i), (1, .pure (.ptr [encMs al])), (2, .loc 100 0 0), (3, .loc 101 0 0), (4, .pure (.ptr [.ptr (planC cp ms)])), (5, .pure (.ptr [.val fv])), (9, .int r), (53, .pure (.val us[r].val)), (54, .int us[r].xs.length), (55, .int kt.1)], [(100, some (cellA kt.2)), (101, some (.row 1 (usPV us)))], [100, 101]⟩)
     (fun kt => kt.1 ≤ us[r].xs.length ∧ MI al cp T (us.map ARow.xs) r kt.1 kt.2 ∧ bitsIn T1 kt.2) (fun kt => us[r].xs.length - kt.1) (0, T1 ||| 2 ^ r)
     (Le.of ?_ ?_ rfl rfl rfl) ⟨Nat.zero_le _, hM0, bitsIn_or _ _⟩ ?_
   · (repeat' (first|exact trivial|refine aq ?_ ?_|exact oq|fail))
   · (repeat' (first|exact trivial|exact rfl|refine aq ?_ ?_|refine Exists.intro _ (aq rfl ?_)|exact oq|fail))
   rintro ⟨k, T3⟩ ⟨hk, hM, hT13⟩
   simp only at hk hM hT13 ⊢
   refine code_soundR (fun id => Nat.beq id 7 || Nat.beq id 11 || Nat.beq id 12 || Nat.beq id 13) (more := more8 false _ _) more8_ok FOK.wide _ ?_
   repeat' ((try conv => whnf); first|(first|refine k3 ?_ ?_|refine k4 ?_ ?_) <;> intro hb <;> (try rw [lM] at hb) <;> try (exfalso; omega)|fail)
   · rename_i hk2
     have hk2 : k < us[r].xs.length := by omega
     refine Wp.atW2 (l1 := [_]) (l2 := [_, _]) (more := more8 false _ _) more8_ok FOK.wide rfl rfl rfl ?_
     skip
     refine StepW.of FOK.wide (fun c h => by cases h) (StepOK.rowAddr hG.toUCtx (k := k) (r := us[r]) rfl rfl (Nat.le_of_ble_eq_true rfl) Tryd.underlying26 rfl rfl rfl hk2 ?_)
     skip
     refine StepW.of FOK.wide (fun c h => by cases h) (StepOK.rowLoad hG.toUCtx (us := us) (r := r) (k := k) rfl (by omega) hk2 rfl rfl rfl (Nat.le_of_ble_eq_true rfl) rfl ?_)
     skip
     have hum : (us[r].xs[k]) ∈ (us.map ARow.xs).getD r [] := by rw [hgr]; exact List.getElem_mem hk2
     have hul := (hU.mem r _ hum).1
     have hun := untried_lt (T := T) (T1 := T3) c1 hTr (hL.2.1.trans hT13) hM.on
     have hs : SSpec Tryd.prog c.f c.p1 c.p2 us[r].xs[k] T3 (us.map ARow.xs) (sQ al cp us[r].xs[k] T3 (us.map ARow.xs)) := by
       rw [hcf, hc1, hc2]
       exact ih T3 _ _ (by omega) hM.lt hul hU
     refine Wp.atW (l1 := [_, _]) (l2 := []) (more := more8 false _ _) more8_ok FOK.wide rfl rfl ?_
     skip
     refine StepW.serve FOK.wide hG (us := us) rfl rfl rfl h64 rfl rfl (by rw [← hfv]; rfl) rfl rfl rfl (Nat.le_of_ble_eq_true rfl) hs ?_
     have hku : (us.map ARow.xs).getD r [] = us[r].xs ∧ us[r].xs.getD k 0 = us[r].xs[k] := ⟨hgr, getD_at hk2 0⟩
     rintro b T4 us1 h641 hBf hQ1
     cases b with
     | false =>
       obtain rfl := hBf rfl
       have hN := (hM.next (k := k) (by rw [hku.1, hku.2]; exact hQ1)).2
       repeat' ((try conv => whnf); first|refine s4 nm ?_|fail)
       exact ⟨(k + 1, T4), Le.of (by (repeat' (first|exact trivial|refine aq ?_ ?_|exact oq|fail))) (by (repeat' (first|exact trivial|exact rfl|refine aq ?_ ?_|refine Exists.intro _ (aq rfl ?_)|exact oq|fail))) rfl rfl rfl, ⟨hk2, hN, hT13.trans hQ1.2.2.1⟩, by show us1[r].xs.length - (k + 1) < us1[r].xs.length - k; omega⟩
     | true =>
       obtain ⟨g1, g2, g3⟩ := sQ_swap hi c1 (by rw [hai]; exact cb) hTr (by rw [hgr]; exact hk2) hM (by rw [hku.1, hku.2]; exact hQ1)
       have hr1 : r < us1.length := by omega
       have hgr1 : (us1.map ARow.xs).getD r [] = us1[r].xs := by rw [getD_at (by rw [List.length_map]; omega), List.getElem_map]
       have hk1 : k < us1[r].xs.length := by rw [← hgr1, g2, hgr]; exact hk2
       skip
       refine Wp.atW2 (l1 := [_, _, _, _, _]) (l2 := []) (more := more8 false _ _) more8_ok FOK.wide rfl rfl rfl ?_
       repeat' ((try conv => whnf); first|refine aq rfl ?_|refine aq bd ?_|refine ⟨_, _, getMapN nm, rfl, ?_⟩|fail)
       refine StepW.of FOK.wide (fun c h => by cases h) (StepOK.rowAddr hG.toUCtx (k := k) (r := us1[r]) rfl rfl (Nat.le_of_ble_eq_true rfl) Tryd.underlying26 rfl rfl rfl hk1 ?_)
       skip
       refine StepW.rowStore FOK.wide hG.toUCtx (us := us1) (r := r) (k := k) rfl hr1 hk1 rfl rfl rfl rfl rfl ?_
       skip
       refine ⟨true, T4, us1.set r ⟨us1[r].blk, us1[r].cap, us1[r].xs.set k i⟩, by rw [List.length_set]; exact h641, (fun h => by cases h), rfl, rfl, rfl, ?_, ?_⟩
       · rw [usPV_same hr1 hk1]; rfl
       · rw [List.map_set]; rw [hgr1] at g3; exact g3
   · rename_i hk2
     have e : k = us[r].xs.length := by omega
     have hN := hM.last (by rw [hgr]; exact e)
     have d3 := bits_andNot al[i] T3 hab hM.lt
     skip
     refine Wp.draw (more := more8 true _ _) more8_det more8_ok FOK.wide rfl (by decide +kernel) (by conv => lhs; reduce) ?_
     repeat' ((try conv => whnf); first|refine s5 nm nm ?_|fail)
     refine ⟨_, d3, ?_⟩
     skip
     exact ⟨T3, Le.of (by (repeat' (first|exact trivial|refine aq ?_ ?_|exact oq|fail))) (by (repeat' (first|exact trivial|exact rfl|refine aq ?_ ?_|refine Exists.intro _ (aq rfl ?_)|exact oq|fail))) rfl rfl rfl, hN, untried_lt c1 hT1 hT13 hM.on⟩
end Go.Proofs.YthldjgjpokjliaaDoor
/- Schedules: how many of the first needs can be served. Conditions: none. -/
namespace Go.Proofs.YthldjgjpokjliaaDoor
open Go.Avc
def us0 : List ARow := List.replicate 64 nilRow
theorem us0_row (r : Nat) : (us0.map ARow.xs).getD r [] = [] := by
 have e : us0.map ARow.xs = List.replicate 64 [] := by unfold us0; rw [List.map_replicate]; rfl
 rw [e, List.getD_eq_getElem?_getD, List.getElem?_replicate]
 split <;> rfl
attribute [local irreducible] PSub Wp PSpec Le Need Both
attribute [local irreducible] Turn StepW StepOK SSpec
theorem served_spec (al cp ms : List Nat) (hal : al.length ≤ 1000) (halb : ∀ i, al.getD i 0 < 18446744073709551616) (hcp : cp.length = 64) (hcb : ∀ r, cp.getD r 0 ≤ 1000) :
   PSpec Tryd.prog 32 [.ptr (planC cp ms), encMs al] (.int (srvL al cp : Nat)) := by
 refine PSpec.of_wpU Tryd.func32 rfl Tryd.call32 (by simp) (us := us0) (fun r hr => by rw [List.eq_of_mem_replicate hr]; rfl) ?_
 rintro we ⟨P, N, w0, X, β0, fx, y, hy, pk, df⟩ rfl rfl rfl rfl hG
 have lM : (al.map fun m : Nat => [PV.val (.int .u64 (m : Int))]).length = al.length := List.length_map ..
 show Wp _ _ _ _ ⟨[(23, .gh (usCode us0) false), (0, .pure (.ptr (planC cp ms))), (1, .pure (encMs al))], [], []⟩ _
 refine code_soundR (fun id => Nat.beq id 8) (more := more8 false _ _) more8_ok FOK.wide _ ?_
 skip
 refine Wp.loop (fun iu : Nat × List ARow => ⟨[(23, .gh (usCode iu.2) false), (2, .loc 2 0 0), (3, .loc 3 0 0), (5, .loc 5 0 0), (10, .int al.length), (11, .int iu.1)], [(2, some (.box [.pure (.ptr (planC cp ms))])), (3, some (.box [.pure (encMs al)])), (5, some (.row 1 (usPV iu.2)))], [2, 3, 5]⟩)
   (fun iu => iu.1 ≤ al.length ∧ iu.2.length = 64 ∧ UOk al cp (iu.2.map ARow.xs) ∧ (iu.2.map ARow.xs).flatten.Perm (List.range iu.1)) (fun iu => al.length - iu.1) (0, us0)
   (Le.of ?_ ?_ rfl rfl rfl) ?_ ?_
 · (repeat' (first|exact trivial|refine aq ?_ ?_|exact oq|exact l1 bd|fail))
 · (repeat' (first|exact trivial|exact rfl|refine aq ?_ ?_|refine Exists.intro _ (aq rfl ?_)|exact oq|fail))
 · refine ⟨Nat.zero_le _, rfl, ⟨rfl, fun r u hu => ?_, fun r => ?_⟩, ?_⟩
   · rw [us0_row] at hu; cases hu
   · rw [us0_row]; exact Nat.zero_le _
   · show (us0.map ARow.xs).flatten.Perm []
     rw [show (us0.map ARow.xs).flatten = [] by decide]
 rintro ⟨i, us⟩ ⟨hi, h64, hU, hp⟩
 simp only at hi h64 hU hp ⊢
 by_cases hi2 : i < al.length
 · have hs := serve_spec al cp ms hal halb hcp hcb _ 0 i (us.map ARow.xs) (Nat.lt_succ_self _) (by decide) hi2 hU
   refine code_soundR (fun id => Nat.beq id 8) (more := more8 false _ _) more8_ok FOK.wide _ ?_
   repeat' ((try conv => whnf); first|(first|refine k3 ?_ ?_|refine k4 ?_ ?_) <;> intro hb <;> (try rw [lM] at hb) <;> try (exfalso; omega)|refine aq rfl ?_|fail)
   refine Wp.atW (l1 := [_, _]) (l2 := [_]) (more := more8 false _ _) more8_ok FOK.wide rfl rfl ?_
   skip
   refine StepW.serve0 (k1 := 3) (k2 := 2) (k8 := 8) (kt := 7) (ku := 5) FOK.wide hG (us := us) rfl h64 (by decide) (by decide) (by decide) (by decide) (T := 0) rfl rfl rfl rfl rfl rfl rfl rfl rfl rfl rfl (Nat.le_of_ble_eq_true rfl) hs ?_
   rintro b T1 us1 h641 hBf hQ
   cases b with
   | true =>
     have hpn : (us1.map ARow.xs).flatten.Perm (List.range (i + 1)) := by
       rw [List.range_succ]
       exact hQ.2.1.trans ((hp.cons i).trans (List.perm_append_singleton i _).symm)
     repeat' ((try conv => whnf); first|refine s4 nm ?_|fail)
     exact ⟨(i + 1, us1), Le.of (by (repeat' (first|exact trivial|refine aq ?_ ?_|exact oq|fail))) (by (repeat' (first|exact trivial|exact rfl|refine aq ?_ ?_|refine Exists.intro _ (aq rfl ?_)|exact oq|fail))) rfl rfl rfl, ⟨hi2, h641, hQ.1, hpn⟩, by show al.length - (i + 1) < al.length - i; omega⟩
   | false =>
     have hno := no_svc hU hp hQ
     have hres : srvL al cp = i := srvL_eq (has_svc hU hp hi) hno
     rw [hres]
     skip
     refine And.intro ?_ ⟨_, _, rfl⟩
     skip
     exact PSub.refl _
 · have e : i = al.length := by omega
   subst e
   have hres : srvL al cp = al.length := Nat.le_antisymm (srvL_le al cp) (has_svc hU hp hi).le
   rw [hres]
   refine code_soundR (fun id => Nat.beq id 8) (more := more8 false _ _) more8_ok FOK.wide _ ?_
   repeat' ((try conv => whnf); first|(first|refine k3 ?_ ?_|refine k4 ?_ ?_) <;> intro hb <;> (try rw [lM] at hb) <;> try (exfalso; omega)|fail)
   refine And.intro ?_ ⟨_, _, rfl⟩
   rw [lM]
   skip
   exact PSub.refl _
end Go.Proofs.YthldjgjpokjliaaDoor
/- Schedules: a copy of masks; the least service. Conditions: none. -/
namespace Go.Proofs.YthldjgjpokjliaaDoor
open Go.Avc
def mrow (m : Nat) : List PV := [PV.val (.int .u64 (m : Int))]
theorem dropN_eq {α : Type} : ∀ (n : Nat) (l : List α), dropN n l = l.drop n
 | 0, _ => rfl
 | _ + 1, [] => rfl
 | n + 1, _ :: l => dropN_eq n l
theorem Sat.take {al cp : List Nat} {n : Nat} (h : Sat al cp n) : Sat (al.take n) cp n := by
 obtain ⟨l, hl, rfl⟩ := h
 refine ⟨l, ⟨by rw [List.length_take]; have := hl.len; omega, fun j hj => ?_, hl.room⟩, rfl⟩
 have h1 := hl.can j hj
 have h2 := hl.len
 rw [getD_at (d := 0) (show j < al.length by omega)] at h1
 rw [getD_at (d := 0) (show j < (al.take l.length).length by rw [List.length_take]; omega), List.getElem_take]
 exact h1
theorem sub_sl {sz : Nat} {a b : List (List PV)} (h : a = b) : PSub (.sl sz a) (.sl sz b) := by rw [h]; exact PSub.refl _
theorem ctz_pow {r : Nat} (h : r < 64) : Lib.ctz 64 (2 ^ r) = r := by
 obtain ⟨_, h2, _⟩ := ctz_bit (x := 2 ^ r) (Nat.pos_iff_ne_zero.1 (Nat.pow_pos (by decide))) (pow_lt h)
 rw [pow_bit] at h2
 exact (of_decide_eq_true h2).symm
theorem bit_lt {a q : Nat} (ha : a < 18446744073709551616) (h : a.testBit q = true) : q < 64 := by
 rcases Nat.lt_or_ge q 64 with h1 | h1
 · exact h1
 · have := Nat.testBit_lt_two_pow (x := a) (i := q) (Nat.lt_of_lt_of_le ha (by rw [show 18446744073709551616 = 2 ^ 64 from rfl]; exact Nat.pow_le_pow_right (by decide) h1))
   rw [h] at this; cases this
attribute [local irreducible] PSub Wp PSpec Le Need Both
theorem cloneM_own (l : List Nat) (h : l.length ≤ 10000) : GSpec Tryd.prog 40 1 ⟨numE 0 [.pure (encMs l)], [], []⟩ [] 1 ⟨[(0, .lsl 7 0 l.length)], [(7, some (.row 1 (l.map mrow)))], [7]⟩ := by
 have lM : (l.map mrow).length = l.length := List.length_map ..
 refine GSpec.of_vc (fun Γ => more8 false Γ.P Γ.fx) (fun Γ => more8_ok) Tryd.func40 rfl Tryd.call40 (by decide) ?_
 rintro ⟨P, N, w0, X, β0, fx, y, hy, pk, df⟩ rfl rfl rfl hoff rfl; change y.on = false at hoff
 skip
 intro r hr
 repeat' ((try conv => whnf); first|refine k6 (fun hb => ?_) fun hb => ?_|refine aq rfl ?_|refine aq bd ?_|fail)
 · have e : l = [] := List.map_eq_nil_iff.1 (hr hb)
   subst e
   exact Le.trans (Le.virt (k := 7) (sz := 1) rfl rfl (by omega)) (Le.of ⟨Or.inr (Or.inr (Or.inr ⟨7, rfl, rfl, rfl⟩)), trivial⟩ ⟨rfl, trivial⟩ rfl rfl rfl)
 · exact Le.of ⟨SubA.lsl (by simp), trivial⟩ ⟨rfl, trivial⟩ rfl rfl rfl
theorem longest_spec (cp ms l0 : List Nat) (hal : ms.length ≤ 100) (halb : ∀ i, ms.getD i 0 < 18446744073709551616) (hcp : cp.length = 64) (hcb : ∀ r, cp.getD r 0 ≤ 1000) (hl0 : leastS (ms.take (srvL ms cp)) cp (srvL ms cp) l0) :
   PSpec Tryd.prog 25 [.ptr (planC cp ms)] (.sl 1 (l0.map fun x : Nat => [PV.int x])) := by
 have q0 := served_spec ms cp ms (by omega) halb hcp hcb
 obtain ⟨n, hn⟩ : ∃ n, n = srvL ms cp := ⟨_, rfl⟩
 have hnl : n ≤ ms.length := by rw [hn]; exact srvL_le ms cp
 rw [← hn] at q0 hl0
 have hnth : nth (pures (dropN 64 (planC cp ms))) 0 = some (.pure (encMs ms)) := by
   rw [dropN_eq]
   unfold planC
   rw [List.drop_append_of_le_length (by simp [hcp]), List.drop_of_length_le (by simp [hcp])]
   rfl
 have hcut : cut (ms.map fun m : Nat => [PV.val (.int .u64 (m : Int))]) 0 n = (ms.take n).map mrow := by
   unfold cut
   rw [List.drop_zero, Nat.sub_zero, ← List.map_take]
   rfl
 have lM : (ms.map fun m : Nat => [PV.val (.int .u64 (m : Int))]).length = ms.length := List.length_map ..
 refine PSpec.of_vc (fun Γ => more8 false Γ.P Γ.fx) (fun Γ => more8_ok) Tryd.func25 rfl Tryd.call25 (by simp) ?_
 rintro ⟨P, N, w0, X, β0, fx, y, hy, pk, df⟩ rfl rfl rfl hoff rfl; change y.on = false at hoff
 skip
 conv => whnf
 refine match_some hnth ?_
 skip
 refine .inl ⟨_, q0, ?_⟩
 skip
 conv => whnf
 refine match_some hnth ?_
 repeat' ((try conv => whnf); first|refine aq bd ?_|fail)
 have lt : (ms.take n).length = n := by rw [List.length_take]; omega
 simp only [Int.toNat_natCast, hcut]
 refine .inr ⟨[(7, 19)], [.pure (encMs (ms.take n))], [], [], [], 1, _, cloneM_own (ms.take n) (by omega), ⟨Or.inl (congrArg (fun r => AV.pure (.sl 1 r)) hcut), trivial⟩, trivial, ?_⟩
 skip
 obtain ⟨al, hall⟩ : ∃ al, al = ms.take n := ⟨_, rfl⟩
 rw [← hall] at lt hl0 ⊢
 have hsat : Sat al cp al.length := by rw [lt, hall]; exact (show Sat ms cp n by rw [hn]; exact srvL_sat ms cp).take
 refine Wp.loop (fun l : List Nat => ⟨[(0, .pure (.ptr (planC cp ms))), (2, .lsl 60 0 l.length), (3, .int n), (4, .lsl 61 0 n), (21, .int n), (22, .int l.length)], [(60, some (.row 1 (l.map fun x : Nat => [PV.int x]))), (61, some (.row 1 ((fxd al l).map mrow)))], [60, 61]⟩) (fun l => l.length ≤ n ∧ Grd al cp l) (fun l => n - l.length) []
   (Le.trans (Le.virt (k := 60) (sz := 1) rfl rfl (by omega)) (Le.map [(61, 19)] ?_ ?_ rfl rfl rfl rfl)) ⟨Nat.zero_le _, Grd.start hsat⟩ ?_
 · (repeat' (first|exact trivial|refine aq ?_ ?_|exact oq|exact l1 bd|exact SubA.lsl ls|exact l6 rfl|fail))
 · (repeat' (first|exact trivial|exact rfl|refine aq ?_ ?_|fail))
 rintro l ⟨hln, hg⟩
 have lF : ((fxd al l).map mrow).length = al.length := by rw [List.length_map, fxd_len (by omega)]
 have lL : (l.map fun x : Nat => [PV.int x]).length = l.length := List.length_map ..
 by_cases hlt : l.length < n
 · obtain ⟨v0, hv0⟩ : ∃ v0, v0 = al.getD l.length 0 := ⟨_, rfl⟩
   have hvb : v0 < 18446744073709551616 := by
     rw [hv0, getD_at (by omega)]
     simp only [hall, List.getElem_take]
     have := halb l.length
     rwa [getD_at (by omega)] at this
   have hF : l.length < (fxd al l).length := by rw [fxd_len (by omega)]; omega
   have hFv : (fxd al l)[l.length] = v0 := by rw [hv0, ← fxd_hi (Nat.le_refl l.length), getD_at hF]
   obtain ⟨cand, hcand⟩ : ∃ cand : Nat → Prop, cand = fun q => ∃ m, isSvc al cp m ∧ m.length = al.length ∧ m.take (l.length + 1) = l ++ [q] := ⟨_, rfl⟩
   have hex : ∃ q, v0.testBit q = true ∧ cand q := by
     obtain ⟨m, h1, h2, h3⟩ := hg.ex
     refine ⟨m.getD l.length 0, by rw [hv0]; exact h1.can _ (by omega), ?_⟩
     rw [hcand]
     refine ⟨m, h1, h2, ?_⟩
     rw [List.take_succ_eq_append_getElem (by omega), h3, getD_at (by omega)]
   refine code_sound (more := more8 false _ _) more8_ok FOK.wide _ ?_
   repeat' ((try conv => whnf); first|(first|refine k3 ?_ ?_|refine k4 ?_ ?_) <;> intro hb <;> (try rw [lM] at hb) <;> try (exfalso; omega)|refine aq bd ?_|refine ⟨_, _, getMapN nm, rfl, ?_⟩|fail)
   refine Wp.loop (fun lc : Nat × Nat => ⟨[(0, .pure (.ptr (planC cp ms))), (2, .lsl 60 0 l.length), (3, .int n), (4, .lsl 61 0 n), (5, .int l.length), (6, .pure (.val (.int .u64 (lc.1 : Nat)))), (21, .int n), (22, .int l.length)], [(60, some (.row 1 (l.map fun x : Nat => [PV.int x]))), (61, some (.row 1 (((fxd al l).set l.length lc.2).map mrow)))], [60, 61]⟩)
     (fun lc => lc.1 < 18446744073709551616 ∧ bitsIn lc.1 v0 ∧ ∀ q, v0.testBit q = true → lc.1.testBit q = false → ¬ cand q) (fun lc => lc.1) (v0, v0)
     (Le.of ?_ ?_ rfl rfl rfl) ⟨hvb, bitsIn.refl _, fun q h1 h2 => by rw [h1] at h2; cases h2⟩ ?_
   · have hFv2 : (fxd al l)[((l.length : Nat) : Int).toNat]'(by rw [Int.toNat_natCast]; exact hF) = v0 := by simp only [Int.toNat_natCast]; exact hFv
     (repeat' (first|exact trivial|refine aq ?_ ?_|exact oq|exact l1 bd|fail))
   · have hsv : (fxd al l).set l.length v0 = fxd al l := by
       conv => lhs; rw [← hFv]
       exact List.set_getElem_self hF
     rw [hsv]
     (repeat' (first|exact trivial|exact rfl|refine aq ?_ ?_|fail))
   rintro ⟨left, c⟩ ⟨h1, h2, h3⟩
   simp only at h1 h2 h3 ⊢
   have h0 : left ≠ 0 := fun e => by
     obtain ⟨q, g1, g2⟩ := hex
     exact h3 q g1 (by rw [e, Nat.zero_testBit]) g2
   obtain ⟨hlow, hk⟩ := Lib.lowest_bit 64 left h0 h1
   obtain ⟨c1, c2, c3⟩ := ctz_bit h0 h1
   have hcl := clear_bit h0 h1
   obtain ⟨r, hr⟩ : ∃ r, r = Lib.ctz 64 left := ⟨_, rfl⟩
   rw [← hr] at hlow hk c1 c2 c3 hcl
   have e1 : IntKind.u64.wrap (0 - (left : Int)) = ((18446744073709551616 - left : Nat) : Int) := by rw [wrap_u64]; omega
   have e2 : bits .and .u64 (left : Int) ((18446744073709551616 - left : Nat) : Int) = ((2 ^ r : Nat) : Int) := by rw [bits_and_u64_nat left _ h1 (by omega)]; rw [show left &&& (18446744073709551616 - left) = 2 ^ r from hlow]
   have e3 : IntKind.u64.wrap ((left : Int) - 1) = ((left - 1 : Nat) : Int) := by rw [wrap_u64]; omega
   have e4 := bits_and_u64_nat left (left - 1) h1 (by omega)
   have hset : ((fxd al l).set l.length c).set l.length (2 ^ r) = fxd al (l ++ [r]) := by rw [List.set_set, fxd_next (by omega)]
   have htst := hg.test (by omega) (r := r) (by rw [← hv0]; exact h2 r c2)
   refine code_sound (more := more8 false _ _) more8_ok FOK.wide _ ?_
   repeat' ((try conv => whnf); first|(first|refine k3 ?_ ?_|refine k4 ?_ ?_) <;> intro hb <;> (try rw [lM] at hb) <;> try (exfalso; omega)|fail)
   refine ⟨_, e1, ?_⟩
   skip
   refine ⟨_, e2, ?_⟩
   repeat' ((try conv => whnf); first|refine aq rfl ?_|refine aq bd ?_|refine .inl ⟨rfl, rfl, bd, rfl, rfl, ?_⟩|fail)
   have hrow : (List.map mrow ((fxd al l).set l.length c)).set (0 + ((l.length : Nat) : Int).toNat) [PV.val (.int .u64 ((2 ^ r : Nat) : Int))] = (fxd al (l ++ [r])).map mrow := by
     rw [Nat.zero_add, Int.toNat_natCast, ← hset, List.map_set, List.map_set]
     simp [mrow]
   have hfl : (fxd al (l ++ [r])).length = n := by rw [fxd_len (by simp; omega)]; omega
   have halB : ∀ j, al.getD j 0 < 18446744073709551616 := fun j => by
     by_cases hj : j < al.length
     · rw [getD_at hj]
       simp only [hall, List.getElem_take]
       have := halb j
       rwa [getD_at (by omega)] at this
     · rw [List.getD_eq_getElem?_getD, List.getElem?_eq_none (by omega)]
       decide
   have hgb : ∀ j, (fxd al (l ++ [r])).getD j 0 < 18446744073709551616 := fun j => by
     by_cases hj : j < (l ++ [r]).length
     · rw [fxd_lo hj]
       refine pow_lt ?_
       rw [List.length_append, List.length_singleton] at hj
       rcases Nat.lt_succ_iff_lt_or_eq.1 hj with h5 | rfl
       · rw [show (l ++ [r]).getD j 0 = l.getD j 0 by simp [List.getD, List.getElem?_append_left h5]]
         exact bit_lt (halB j) (hg.bit j h5)
       · rw [show (l ++ [r]).getD l.length 0 = r by simp [List.getD]]
         exact c1
     · rw [fxd_hi (by omega)]
       exact halB j
   have q1 : PSpec Tryd.prog 32 [.ptr (planC cp ms), .sl 1 (List.take n (List.drop 0 ((List.map mrow ((fxd al l).set l.length c)).set (0 + ((l.length : Nat) : Int).toNat) [PV.val (.int .u64 ((2 ^ r : Nat) : Int))])))] (.int (srvL (fxd al (l ++ [r])) cp : Nat)) := by
     rw [hrow, List.drop_zero, List.take_of_length_le (by rw [List.length_map, hfl]; exact Nat.le_refl _)]
     exact served_spec (fxd al (l ++ [r])) cp ms (by omega) hgb hcp hcb
   refine .inl ⟨_, q1, ?_⟩
   have hat : ((List.map mrow ((fxd al l).set l.length c)).set (0 + ((l.length : Nat) : Int).toNat) [PV.val (.int .u64 ((2 ^ r : Nat) : Int))])[0 + ((l.length : Nat) : Int).toNat]? = some [PV.val (.int .u64 ((2 ^ r : Nat) : Int))] := by
     rw [Nat.zero_add, Int.toNat_natCast, List.getElem?_set_self (by simpa using hF)]
   have qz := tz_spec (2 ^ r) (pow_lt c1)
   rw [ctz_pow c1] at qz
   have hmap : (l ++ [r]).map (fun x : Nat => [PV.int x]) = l.map (fun x : Nat => [PV.int x]) ++ [[PV.int r]] := by simp
   by_cases hc : srvL (fxd al (l ++ [r])) cp = n
   · have hcr : cand r := by rw [hcand]; exact htst.1 (by omega)
     have hnx : Grd al cp (l ++ [r]) := hg.next (by omega) (by rw [hcand] at hcr; exact hcr) fun q hq hcq => by
       have hb : v0.testBit q = true := by
         obtain ⟨m, m1, m2, m3⟩ := hcq
         have := m1.can l.length (by omega)
         rw [hv0]
         rw [List.take_succ_eq_append_getElem (by omega)] at m3
         have e := (List.append_inj' m3 rfl).2
         rw [getD_at (l := m) (by omega)] at this
         simp only [List.cons.injEq, and_true] at e
         rwa [e] at this
       exact h3 q hb (c3 q hq) (by rw [hcand]; exact hcq)
     rw [hc]
     repeat' ((try conv => whnf); first|(first|refine k3 ?_ ?_|refine k4 ?_ ?_) <;> intro hb <;> (try rw [lM] at hb) <;> try (exfalso; omega)|refine aq bd ?_|fail)
     refine ⟨_, _, hat, rfl, ?_⟩
     skip
     refine .inl ⟨_, qz, ?_⟩
     repeat' ((try conv => whnf); first|refine s4 nm ?_|refine aq bd ?_|fail)
     refine ⟨l ++ [r], Le.map [(60, 54)] ?_ ?_ rfl rfl rfl rfl, ⟨by simp; omega, hnx⟩, by simp; omega⟩
     · rw [hmap]
       (repeat' (first|exact trivial|refine aq ?_ ?_|exact oq|exact l1 bd|exact SubA.lsl ls|fail))
       all_goals trace_state
     · rw [hmap, ← hrow]
       (repeat' (first|exact trivial|exact rfl|refine aq ?_ ?_|fail))
       all_goals trace_state
   · have hcr : ¬ cand r := by rw [hcand]; exact fun h => hc (by rw [← lt]; exact htst.2 h)
     repeat' ((try conv => whnf); first|(first|refine k3 ?_ ?_|refine k4 ?_ ?_) <;> intro hb <;> (try rw [lM] at hb) <;> try (exfalso; omega)|fail)
     refine ⟨_, e3, ?_⟩
     skip
     refine ⟨_, e4, ?_⟩
     skip
     refine ⟨(left &&& (left - 1), 2 ^ r), Le.of ?_ ?_ rfl rfl rfl, ⟨Nat.lt_of_le_of_lt Nat.and_le_left h1, fun q hq => ?_, fun q g1 g2 => ?_⟩, ?_⟩
     · (repeat' (first|exact trivial|refine aq ?_ ?_|exact oq|fail))
     · rw [show (fxd al l).set l.length (2 ^ r) = fxd al (l ++ [r]) from (fxd_next (by omega)).symm, ← hrow]
       (repeat' (first|exact trivial|exact rfl|refine aq ?_ ?_|fail))
     · rw [hcl] at hq
       exact h2 q (Bool.and_eq_true_iff.1 hq).1
     · have g2 : (left &&& (left - 1)).testBit q = false := g2
       rw [hcl] at g2
       cases h5 : left.testBit q with
       | false => exact h3 q g1 h5
       | true =>
         rw [h5, Bool.true_and] at g2
         have : q = r := by have := of_decide_eq_false g2; omega
         rw [this]; exact hcr
     · show left &&& (left - 1) < left
       exact Nat.lt_of_le_of_lt Nat.and_le_right (by omega)
 · have e : l.length = n := by omega
   have hl : l = l0 := leastS_one (by have := hg.last (by omega); rwa [lt] at this) hl0
   refine code_sound (more := more8 false _ _) more8_ok FOK.wide _ ?_
   repeat' ((try conv => whnf); first|(first|refine k3 ?_ ?_|refine k4 ?_ ?_) <;> intro hb <;> (try rw [lM] at hb) <;> try (exfalso; omega)|fail)
   rw [hl]
   exact sub_sl (by simp [List.take_of_length_le])
end Go.Proofs.YthldjgjpokjliaaDoor
