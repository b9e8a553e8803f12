/- Schedules: a plan is made out of stock and needs. Conditions: none. -/
import Derived.Test.YthldjgjpokjliaaDoorWd
import Derived.Test.YthldjgjpokjliaaDoorWm
set_option linter.unusedSimpArgs false
set_option linter.unusedVariables false
set_option maxRecDepth 20000
set_option maxHeartbeats 4000000
namespace Go.Proofs.YthldjgjpokjliaaDoor
open Go.Avc
def cellsI (cp : List Nat) : List AV := cp.map fun c : Nat => AV.int c
theorem subAL_refl {B : Nat → Option Blk} : ∀ l : List AV, SubAL B l l
 | [] => trivial
 | a :: l => ⟨.inl rfl, subAL_refl l⟩
theorem subAL_last {B : Nat → Option Blk} {a b : AV} (h : SubA B a b) : ∀ l : List AV, SubAL B (l ++ [a]) (l ++ [b])
 | [] => ⟨h, trivial⟩
 | _ :: l => ⟨.inl rfl, subAL_last h l⟩
theorem splice_set {α : Type} : ∀ (j : Nat) (l : List α) (v : α), j < l.length → splice j l [v] = some (l.set j v)
 | 0, a :: l, v, _ => by cases l <;> rfl
 | j + 1, a :: l, v, h => by
   unfold splice
   rw [splice_set j l v (by simpa using h)]
   rfl
theorem match_list {o : Option (List AV)} {a : List AV} {F : List AV → Prop} (h : o = some a) (k : F a) : (match (generalizing := false) o with | some v => F v | none => False) := by subst h; exact k
theorem keys_cells (v : AV) : ∀ cp : List Nat, AV.keysL (cellsI cp ++ [v]) = v.keys
 | [] => by simp [cellsI, AV.keysL]
 | c :: cp => by
   have := keys_cells v cp
   unfold cellsI at this ⊢
   rw [List.map_cons, List.cons_append]
   exact this
theorem subB_cells {cp : List Nat} {v : AV} {k : Nat} {l : List (Nat × Option Blk)} {m : List Nat} (hv : subB (k :: v.keys ++ keysB l) m = true) : subB (keysB ((k, some (.box (cellsI cp ++ [v]))) :: l)) m = true := by
 show subB (k :: AV.keysL (cellsI cp ++ [v]) ++ keysB l) m = true
 rw [keys_cells]
 exact hv
theorem renL_cells (σ : Nat → Nat) (v : AV) (cp : List Nat) : AV.renL σ (cellsI cp ++ [v]) = cellsI cp ++ [v.ren σ] := by
 rw [AV.renL_eq, List.map_append]
 unfold cellsI
 rw [List.map_map]
 rfl
theorem fzL_cells (k : Nat) (c : Blk) (v : AV) (cp : List Nat) : AV.fzL k c (cellsI cp ++ [v]) = cellsI cp ++ [v.fz k c] := by
 rw [AV.fzL_eq, List.map_append]
 unfold cellsI
 rw [List.map_map]
 rfl
theorem pures_plan (cp ms : List Nat) : pures (planC cp ms) = cellsI cp ++ [.pure (encMs ms)] := by
 unfold pures planC cellsI
 rw [List.map_append, List.map_map]
 rfl
def cpK (S : List Sk) (k : Nat) : List Nat := (S.take k).foldl cpF (List.replicate 64 0)
theorem cpK_len (S : List Sk) (k : Nat) : (cpK S k).length = 64 := by unfold cpK; rw [cpF_fold]; simp
theorem cpK_next {S : List Sk} {k : Nat} (h : k < S.length) : cpK S (k + 1) = (cpK S k).set S[k].round.toNat S[k].copies.toNat := by
 unfold cpK
 rw [List.take_succ_eq_append_getElem h, List.foldl_append]
 rfl
theorem cells_set {cp : List Nat} {x : AV} {j : Nat} (h : j < cp.length) (v : Nat) : (cellsI cp ++ [x]).set j (AV.int v) = cellsI (cp.set j v) ++ [x] := by
 unfold cellsI
 rw [List.set_append_left _ _ (by simpa using h), List.map_set]
theorem cells_last (cp : List Nat) (x v : AV) (h : cp.length = 64) : (cellsI cp ++ [x]).set 64 v = cellsI cp ++ [v] := by
 unfold cellsI
 rw [List.set_append_right _ _ (by simp [h])]
 simp [h]
theorem cells_nth (cp : List Nat) (x : AV) (h : cp.length = 64) : nth (cellsI cp ++ [x]) 64 = some x := by
 rw [nth_eq]
 unfold cellsI
 rw [List.getElem?_append_right (by simp [h])]
 simp [h]
theorem argsL_get {args : List PV} {t : Nat} {v : AV} (h : lk (numE 0 (pures args)) t = some v) : ∃ p, args[t]? = some p ∧ v = .pure p := by
 rw [numE_get, if_pos (Nat.zero_le _), Nat.sub_zero] at h
 exact pures_get h
theorem PSpec.of_g {P : Program} {f : FuncId} {args : List PV} {v : AV} {bl : List (Nat × Option Blk)} {us : List Nat} {res : PV} (h : GSpec P f args.length ⟨numE 0 (pures args), [], []⟩ [] 1 ⟨[(0, v)], bl, us⟩) (hv : toPV (St.blk ⟨[(0, v)], bl, us⟩) v = some res) : PSpec P f args res := by
 refine ⟨h.1, fun w X vs hgl hsz hvs hX => ?_⟩
 have hget : ∀ t, (⟨numE 0 (pures args), [], []⟩ : St).get t = .junk ∨ ∃ p, args[t]? = some p ∧ (⟨numE 0 (pures args), [], []⟩ : St).get t = .pure p := fun t => by
   cases hl : lk (numE 0 (pures args)) t with
   | none => exact .inl (by simp [St.get, hl])
   | some x =>
     obtain ⟨p, h1, rfl⟩ := argsL_get hl
     exact .inr ⟨p, h1, by simp [St.get, hl]⟩
 have hR : Rl (Ctx.plain P args.length w X (fun _ => none) []) ⟨numE 0 (pures args), [], []⟩ vs w (fun _ => none) := by
   refine
   { size := hsz
     slots := fun t => ?_
     blks := fun k => by simp [St.blk, lk, BO]
     inj := fun k k' bi bi' hk => by cases hk
     lt := fun k bi hk => by cases hk
     notX := fun k bi hk => by cases hk
     own := fun k bi hk => by cases hk
     fixd := fun k hk => rfl
     used1 := fun t k hk => by
       rcases hget t with e | ⟨p, _, e⟩ <;> rw [e] at hk <;> simp [AV.keys] at hk
     used2 := fun k b hk => by simp [St.blk, lk] at hk
     keep := Kp.refl _ _
     Xlt := hX
     glob := hgl.mono ⟨Nat.le_refl _, fun b _ hb => ⟨rfl, by
       rintro (hx | ⟨k, bi, hk, _⟩)
       · exact hb hx
       · cases hk⟩⟩ }
   show AR w (Av X fun _ => none) _ _ _
   rcases hget t with e | ⟨p, hp, e⟩
   · rw [e]; exact .junk _
   · rw [e]
     refine .pure _ _ ((hvs t p hp).mono ⟨Nat.le_refl _, fun b _ hb => ⟨rfl, ?_⟩⟩)
     rintro (hx | ⟨k, bi, hk, _⟩)
     · exact hb hx
     · cases hk
 refine (h.2 w X (fun _ => none) vs hR).mono fun e w' ⟨us', β', he, hr⟩ => ?_
 have h1 : us'.size = 1 := hr.size
 rw [if_pos h1] at he
 have hs0 : AR w' (Av X β') β' v (us'.getD 0 undef) := hr.slots 0
 refine ⟨us'.getD 0 undef, he, AR.toPV (A' := X) ⟨Nat.le_refl _, fun b _ hb => ⟨rfl, fun hx => hb (.inl hx)⟩⟩ hr.blks hs0 (fun k _ bi hk hvv => hr.notX k bi hk hvv) hv, ?_⟩
 have hk := hr.keep
 exact ⟨hk.os, hk.tape, hk.output, hk.size, fun b hb _ => hk.block b hb (by rintro ⟨k, bi, h, _⟩; cases h)⟩
theorem purL_pures : ∀ l : List PV, purL (pures l) = some l
 | [] => rfl
 | p :: l => by
   have := purL_pures l
   unfold pures at this ⊢
   rw [List.map_cons]
   unfold purL
   rw [this]
attribute [local irreducible] PSub Wp PSpec Le Need Both
theorem newPlan_own (S : List Sk) (D : List Nd) (hr : rok S) (hc : ∀ s ∈ S, 0 ≤ s.copies ∧ s.copies ≤ 1000) (hS : S.length ≤ 1000) (hD : D.length ≤ 1000) (hn : ∀ n ∈ D, n.rounds.length ≤ 1000) :
   GSpec Tryd.prog 24 2 ⟨numE 0 [.pure (encSks S), .pure (encNds D)], [], []⟩ [] 1 ⟨[(0, .loc 11 0 0)], [(11, some (.box (pures (planC (cpS S) (msS D S)))))], [11]⟩ := by
 have lS : (S.map encSk).length = S.length := List.length_map ..
 have lD : (D.map encNd).length = D.length := List.length_map ..
 refine GSpec.of_vc (fun Γ => more8 false Γ.P Γ.fx) (fun Γ => more8_ok) Tryd.func24 rfl Tryd.call24 (by decide) ?_
 rintro ⟨P, N, w0, X, β0, fx, y, hy, pk, df⟩ rfl rfl rfl hoff rfl; change y.on = false at hoff
 skip
 refine Wp.loop (fun k : Nat => ⟨[(0, .pure (encSks S)), (1, .pure (encNds D)), (5, .loc 11 0 0), (12, .pure (encSks S)), (13, .int S.length), (14, .int k)], [(11, some (.box (cellsI (cpK S k) ++ [.pure (.val (.slice none 0 0))])))], [11]⟩) (fun k => k ≤ S.length) (fun k => S.length - k) 0
   (Le.of ?_ ⟨⟨_, rfl, subAL_refl _⟩, trivial⟩ rfl (subB_cells rfl) rfl) (Nat.zero_le _) ?_
 · (repeat' (first|exact trivial|refine aq ?_ ?_|exact oq|exact l1 bd|fail))
 rintro k hk
 by_cases hk2 : k < S.length
 · have hrk := hr.2 _ (List.getElem_mem hk2)
   have hck := hc _ (List.getElem_mem hk2)
   have hnx := cpK_next hk2
   obtain ⟨ro, hro⟩ : ∃ ro : Nat, S[k].round = ro := ⟨S[k].round.toNat, by omega⟩
   obtain ⟨co, hco⟩ : ∃ co : Nat, S[k].copies = co := ⟨S[k].copies.toNat, by omega⟩
   have hlen := cpK_len S k
   refine code_sound (more := more8 false _ _) more8_ok FOK.wide _ ?_
   repeat' ((try conv => whnf); first|(first|refine k3 ?_ ?_|refine k4 ?_ ?_) <;> intro hb <;> (try rw [lM] at hb) <;> try (exfalso; omega)|refine aq rfl ?_|refine s5 nm nm ?_|fail)
   refine Wp.draw (more := more8 true _ _) more8_det more8_ok FOK.wide rfl (by decide +kernel) (by conv => lhs; reduce) ?_
   repeat' ((try conv => whnf); first|refine aq rfl ?_|refine aq bd ?_|fail)
   conv => whnf
   have hsp : splice (0 + 0 + S[k].round.toNat * 1) (cellsI (cpK S k) ++ [AV.pure (.val (.slice none 0 0))]) [AV.int S[k].copies] = some (cellsI (cpK S (k + 1)) ++ [AV.pure (.val (.slice none 0 0))]) := by
     rw [splice_set _ _ _ (by simp [cellsI, hlen]; omega), hco, cells_set (by omega), hnx]
     simp [hro, hco]
   refine match_list hsp ?_
   rw [forceC_eq]
   repeat' ((try conv => whnf); first|refine s4 nm ?_|fail)
   exact ⟨k + 1, Le.of (by (repeat' (first|exact trivial|refine aq ?_ ?_|exact oq|fail))) ⟨⟨_, rfl, subAL_refl _⟩, trivial⟩ rfl (subB_cells rfl) rfl, by omega, by omega⟩
 have e : k = S.length := by omega
 subst e
 have hcp : cpK S S.length = cpS S := by unfold cpK cpS; rw [List.take_length]
 have hlen := cpS_len S
 rw [hcp]
 refine code_sound (more := more8 false _ _) more8_ok FOK.wide _ ?_
 repeat' ((try conv => whnf); first|(first|refine k3 ?_ ?_|refine k4 ?_ ?_) <;> intro hb <;> (try rw [lM] at hb) <;> try (exfalso; omega)|fail)
 have hT : ∀ i, i < D.length → (D.take (i + 1)).map (fun n => mrow (usM S n)) = (D.take i).map (fun n => mrow (usM S n)) ++ [mrow (usM S (D.getD i nd0))] := fun i h => by
   rw [List.take_succ_eq_append_getElem h, List.map_append, getD_at h]; rfl
 refine Wp.loop (fun i : Nat => ⟨[(0, .pure (encSks S)), (5, .loc 11 0 0), (27, .pure (encNds D)), (28, .int D.length), (29, .int i)], [(11, some (.box (cellsI (cpS S) ++ [.lsl 300 0 i]))), (300, some (.row 1 ((D.take i).map fun n => mrow (usM S n))))], [11, 300]⟩) (fun i => i ≤ D.length) (fun i => D.length - i) 0
   (Le.trans (Le.virt (k := 300) (sz := 1) rfl rfl (by omega)) (Le.of ?_ ⟨⟨_, rfl, subAL_last (l6 rfl) _⟩, by (repeat' (first|exact trivial|exact rfl|refine aq ?_ ?_|fail))⟩ rfl (subB_cells rfl) rfl)) (Nat.zero_le _) ?_
 · (repeat' (first|exact trivial|refine aq ?_ ?_|exact oq|exact l1 bd|fail))
 rintro i hi
 have lR : ((D.take i).map fun n => mrow (usM S n)).length = i := by rw [List.length_map, List.length_take]; omega
 by_cases hi2 : i < D.length
 · have qu := usable_spec S D[i] (by omega) (by have := hn _ (List.getElem_mem hi2); omega) hr.2
   refine code_sound (more := more8 false _ _) more8_ok FOK.wide _ ?_
   repeat' ((try conv => whnf); first|(first|refine k3 ?_ ?_|refine k4 ?_ ?_) <;> intro hb <;> (try rw [lM] at hb) <;> try (exfalso; omega)|refine aq rfl ?_|refine s5 nm nm ?_|fail)
   refine Wp.draw (more := more8 true _ _) more8_det more8_ok FOK.wide rfl (by decide +kernel) (by conv => lhs; reduce) ?_
   skip
   conv => whnf
   refine match_some (cells_nth _ _ hlen) ?_
   skip
   refine ⟨_, qu, ?_⟩
   repeat' ((try conv => whnf); first|refine aq rfl ?_|refine aq bd ?_|fail)
   have hsp2 : ∀ n, splice (0 + 64) (cellsI (cpS S) ++ [AV.lsl 300 0 i]) [AV.lsl 42 0 n] = some (cellsI (cpS S) ++ [AV.lsl 42 0 n]) := fun n => by
     rw [splice_set _ _ _ (by simp [cellsI, hlen]), Nat.zero_add, cells_last _ _ _ hlen]
   conv => whnf
   refine match_list (hsp2 _) ?_
   rw [forceC_eq]
   repeat' ((try conv => whnf); first|refine s4 nm ?_|fail)
   have hTi := hT i hi2
   rw [getD_at hi2] at hTi
   refine ⟨i + 1, ?_, by omega, by omega⟩
   have hren : renSt [(300, 42)] ⟨[(0, .pure (encSks S)), (5, .loc 11 0 0), (27, .pure (encNds D)), (28, .int D.length), (29, .int (i + 1 : Nat))], [(11, some (.box (cellsI (cpS S) ++ [.lsl 300 0 (i + 1)]))), (300, some (.row 1 ((D.take (i + 1)).map fun n => mrow (usM S n))))], [11, 300]⟩ =
       ⟨[(0, .pure (encSks S)), (5, .loc 11 0 0), (27, .pure (encNds D)), (28, .int D.length), (29, .int (i + 1 : Nat))], [(11, some (.box (cellsI (cpS S) ++ [.lsl 42 0 (i + 1)]))), (42, some (.row 1 ((D.take (i + 1)).map fun n => mrow (usM S n))))], [11, 42]⟩ := by
     show St.mk _ [(11, some (.box (AV.renL (idSig [(300, 42)]) (cellsI (cpS S) ++ [.lsl 300 0 (i + 1)])))), _] _ = _
     rw [renL_cells]
     rfl
   refine Le.trans ?_ (Le.unren _ [(300, 42)] ?_)
   · rw [hren, hTi]
     refine Le.of ?_ ⟨⟨_, rfl, subAL_last (SubA.lsl ?_) _⟩, ?_⟩ rfl (subB_cells rfl) rfl
     · (repeat' (first|exact trivial|refine aq ?_ ?_|exact oq|fail))
     · rw [lR]; rfl
     · (repeat' (first|exact trivial|exact rfl|refine aq ?_ ?_|fail))
   · have h1 : subB (keysB [(11, some (.box (cellsI (cpS S) ++ [.lsl 300 0 (i + 1)]))), (300, some (.row 1 ((D.take (i + 1)).map fun n => mrow (usM S n))))]) [11, 300] = true := subB_cells rfl
     unfold renOK
     simp only
     rw [h1]
     rfl
 · have e : i = D.length := by omega
   subst e
   rw [List.take_length] at lR ⊢
   refine code_sound (more := more8 false _ _) more8_ok FOK.wide _ ?_
   repeat' ((try conv => whnf); first|(first|refine k3 ?_ ?_|refine k4 ?_ ?_) <;> intro hb <;> (try rw [lM] at hb) <;> try (exfalso; omega)|fail)
   obtain ⟨rows, hrows⟩ : ∃ rows, rows = D.map fun n => mrow (usM S n) := ⟨_, rfl⟩
   have hms : encMs (msS D S) = .sl 1 ((rows.drop 0).take D.length) := by
     rw [List.drop_zero, List.take_of_length_le (by rw [hrows, lR]; exact Nat.le_refl _), hrows]
     unfold encMs msS
     rw [List.map_map]
     rfl
   rw [← hrows]
   refine Le.trans (b := ⟨[(0, .loc 11 0 0)], [(11, some (.box (cellsI (cpS S) ++ [.lsl 300 0 D.length]))), (300, some (.row 1 rows))], [11, 300]⟩) (Le.of ⟨.inl rfl, trivial⟩ ⟨⟨_, rfl, subAL_refl _⟩, rfl, trivial⟩ rfl (subB_cells rfl) rfl) ?_
   refine Le.trans (Le.frz 300 rfl) ?_
   have hfz : St.freeze ⟨[(0, .loc 11 0 0)], [(11, some (.box (cellsI (cpS S) ++ [.lsl 300 0 D.length]))), (300, some (.row 1 rows))], [11, 300]⟩ 300 =
       ⟨[(0, .loc 11 0 0)], [(300, none), (11, some (.box (cellsI (cpS S) ++ [.pure (encMs (msS D S))]))), (300, some (.row 1 rows))], [11, 300]⟩ := by
     show St.mk _ [_, (11, some (.box (AV.fzL 300 _ (cellsI (cpS S) ++ [.lsl 300 0 D.length])))), _] _ = _
     rw [fzL_cells, hms]
     rfl
   rw [hfz, pures_plan]
   exact Le.of ⟨.inl rfl, trivial⟩ ⟨⟨_, rfl, subAL_refl _⟩, trivial⟩ rfl (subB_cells rfl) rfl
theorem newPlan_spec (S : List Sk) (D : List Nd) (hr : rok S) (hc : ∀ s ∈ S, 0 ≤ s.copies ∧ s.copies ≤ 1000) (hS : S.length ≤ 1000) (hD : D.length ≤ 1000) (hn : ∀ n ∈ D, n.rounds.length ≤ 1000) :
   PSpec Tryd.prog 24 [encSks S, encNds D] (.ptr (planC (cpS S) (msS D S))) := by
 refine PSpec.of_g (newPlan_own S D hr hc hS hD hn) ?_
 show (match purL (pures (planC (cpS S) (msS D S))) with | some ps => some (PV.ptr (dropPV 0 ps)) | none => none) = _
 rw [purL_pures]
 rfl
end Go.Proofs.YthldjgjpokjliaaDoor
/- Schedules: sets of needs as bits and as lists; plain. Conditions: none. -/
namespace Go.Proofs.YthldjgjpokjliaaDoor
open Go.Avc
theorem sorted_eq : ∀ {l m : List Nat}, l.Pairwise (· < ·) → m.Pairwise (· < ·) → (∀ x, x ∈ l ↔ x ∈ m) → l = m
 | [], [], _, _, _ => rfl
 | [], b :: m, _, _, h => by have := (h b).2 List.mem_cons_self; cases this
 | a :: l, [], _, _, h => by have := (h a).1 List.mem_cons_self; cases this
 | a :: l, b :: m, hl, hm, h => by
   obtain ⟨hl1, hl2⟩ := List.pairwise_cons.1 hl
   obtain ⟨hm1, hm2⟩ := List.pairwise_cons.1 hm
   have e : a = b := by
     rcases List.mem_cons.1 ((h a).1 List.mem_cons_self) with h1 | h1
     · exact h1
     · rcases List.mem_cons.1 ((h b).2 List.mem_cons_self) with h2 | h2
       · exact h2.symm
       · have := hm1 a h1; have := hl1 b h2; omega
   subst e
   rw [sorted_eq hl2 hm2 fun x => ⟨fun hx => by
     rcases List.mem_cons.1 ((h x).1 (List.mem_cons_of_mem _ hx)) with h1 | h1
     · subst h1; exact absurd (hl1 x hx) (Nat.lt_irrefl _)
     · exact h1, fun hx => by
     rcases List.mem_cons.1 ((h x).2 (List.mem_cons_of_mem _ hx)) with h1 | h1
     · subst h1; exact absurd (hm1 x hx) (Nat.lt_irrefl _)
     · exact h1⟩]
def mkM (l : List Nat) : Nat := l.foldr (fun i a => a ||| 2 ^ i) 0
theorem mkM_bit (i : Nat) : ∀ l : List Nat, (mkM l).testBit i = decide (i ∈ l)
 | [] => by simp [mkM]
 | k :: l => by
   have ih := mkM_bit i l
   show (mkM l ||| 2 ^ k).testBit i = _
   rw [or_bit, pow_bit, ih, ← Bool.decide_or]
   exact decide_eq_decide.2 ⟨fun h => by
     rcases h with h | h
     · exact List.mem_cons_of_mem _ h
     · subst h; exact List.mem_cons_self, fun h => by
     rcases List.mem_cons.1 h with h | h
     · exact .inr h.symm
     · exact .inl h⟩
theorem pow_six {B : Nat} (hB : B ≤ 6) : 2 ^ B ≤ 64 := show 2 ^ B ≤ 2 ^ 6 from Nat.pow_le_pow_right (by decide) hB
theorem mkM_lt {l : List Nat} {B : Nat} (h : ∀ x ∈ l, x < B) : mkM l < 2 ^ B := Nat.lt_pow_two_of_testBit _ fun i hi => by
 rw [mkM_bit]
 exact decide_eq_false fun hm => by have := h i hm; omega
theorem mb_sorted (m : Nat) : (mb m).Pairwise (· < ·) := List.pairwise_lt_range.filter _
theorem mb_mkM {l : List Nat} {B : Nat} (hB : B ≤ 6) (h : incN l 0 B) : mb (mkM l) = l := by
 refine sorted_eq (mb_sorted _) h.1 fun x => ?_
 rw [mb_iff, mkM_bit]
 constructor
 · rintro ⟨_, hx⟩; exact of_decide_eq_true hx
 · intro hx; exact ⟨by have := (h.2 x hx).2; omega, decide_eq_true hx⟩
theorem mb_inc {m B : Nat} (h : m < 2 ^ B) : incN (mb m) 0 B := ⟨mb_sorted m, fun x hx => ⟨Nat.zero_le _, by
 obtain ⟨_, h2⟩ := mb_iff.1 hx
 rcases Nat.lt_or_ge x B with h3 | h3
 · exact h3
 · have := Nat.testBit_lt_two_pow (x := m) (i := x) (Nat.lt_of_lt_of_le h (Nat.pow_le_pow_right (by decide) h3))
   rw [h2] at this; cases this⟩⟩
theorem cpsI_range (cp : List Nat) (T : Nat) : ∀ n, sumTo (cpG cp T) n = cpsI cp ((List.range n).filter fun r => T.testBit r)
 | 0 => rfl
 | n + 1 => by
   unfold sumTo
   rw [cpsI_range cp T n, show cpG cp T n = if T.testBit n then cp.getD n 0 else 0 from rfl, List.range_succ, List.filter_append, List.filter_cons, List.filter_nil]
   unfold cpsI
   cases h : T.testBit n with
   | true => rw [if_pos rfl, if_pos rfl, List.map_append, List.sum_append]; simp
   | false => rw [if_neg (by simp), if_neg (by simp), List.append_nil, Nat.add_zero]
theorem sum_filter (f : Nat → Nat) : ∀ L : List Nat, (L.map f).sum = ((L.filter fun r => decide (f r ≠ 0)).map f).sum
 | [] => rfl
 | x :: L => by
   rw [List.map_cons, List.sum_cons, sum_filter f L, List.filter_cons]
   by_cases h : f x = 0
   · rw [if_neg (by simp [h]), h, Nat.zero_add]
   · rw [if_pos (by simp [h]), List.map_cons, List.sum_cons]
theorem rounds_nodup {S : List Sk} (h : rok S) (p : Sk → Bool) : ((S.filter p).map fun s => s.round.toNat).Nodup := by
 have hp : (S.map fun s => s.round.toNat).Pairwise (· < ·) := by
   rw [List.pairwise_map]
   exact List.Pairwise.imp_of_mem (fun {a b} ha hb hab => by have := h.2 a ha; have := h.2 b hb; omega) h.1
 exact (List.Pairwise.sublist (List.filter_sublist.map _) hp).imp fun h => Nat.ne_of_lt h
theorem rounds_one {S : List Sk} (h : rok S) {s t : Sk} (hs : s ∈ S) (ht : t ∈ S) (e : s.round = t.round) : s = t := by
 obtain ⟨i, hi, rfl⟩ := List.getElem_of_mem hs
 obtain ⟨j, hj, rfl⟩ := List.getElem_of_mem ht
 rcases Nat.lt_trichotomy i j with h1 | h1 | h1
 · have := rdist_lt h.1 hi hj h1; omega
 · subst h1; rfl
 · have := rdist_lt h.1 hj hi h1; omega
theorem cpU_eq {S : List Sk} {D : List Nd} {w : List Nat} (h : rok S) (hc : ∀ s ∈ S, 0 ≤ s.copies) (hw : ∀ k ∈ w, k < D.length) : cpU S D w = (cpB (cpS S) (unM (msS D S) w) : Nat) := by
 obtain ⟨T, hT⟩ : ∃ T, T = unM (msS D S) w := ⟨_, rfl⟩
 rw [← hT]
 have hbit : ∀ s ∈ S, usU D w s = T.testBit s.round.toNat := fun s hs => by
   rw [hT, unM_bit, Bool.eq_iff_iff, usU, List.any_eq_true, List.any_eq_true]
   constructor
   · rintro ⟨k, hk, hu⟩
     exact ⟨k, hk, uses_bit h hs hu⟩
   · rintro ⟨k, hk, hu⟩
     refine ⟨k, hk, ?_⟩
     rcases usM_get (D := D) (S := S) k with e | e
     · rw [e, usM_bit _ _ fun s hs => (h.2 s hs).1, List.any_eq_true] at hu
       obtain ⟨t, ht, h1⟩ := hu
       rw [Bool.and_eq_true] at h1
       have e1 := of_decide_eq_true h1.1
       have := h.2 s hs
       have e2 : t = s := rounds_one h ht hs (by omega)
       rw [← e2]; exact h1.2
     · have := hw k hk; omega
 have e1 : cpU S D w = sumB S T := by
   unfold cpU sumB
   congr 1
   exact List.map_congr_left fun s hs => by rw [hbit s hs]
 rw [e1, sumF (copies_at h hc)]
 congr 1
 show _ = sumTo (cpG (cpS S) T) 64
 rw [cpsI_range]
 refine Nat.le_antisymm (sum_sub (rounds_nodup h _) fun r hr => ?_) ?_
 · obtain ⟨s, hs, rfl⟩ := List.mem_map.1 hr
   obtain ⟨hs1, hs2⟩ := List.mem_filter.1 hs
   exact List.mem_filter.2 ⟨List.mem_range.2 (by have := h.2 s hs1; omega), hs2⟩
 · unfold cpsI
   rw [sum_filter]
   refine sum_sub ((List.nodup_range.filter _).filter _) fun r hr => ?_
   obtain ⟨h1, h2⟩ := List.mem_filter.1 hr
   obtain ⟨h3, h4⟩ := List.mem_filter.1 h1
   have h2 : (cpS S).getD r 0 ≠ 0 := by simpa using h2
   by_cases hq : ∃ s ∈ S, s.round = (r : Int)
   · obtain ⟨s, hs, e⟩ := hq
     have e2 : s.round.toNat = r := by omega
     exact List.mem_map.2 ⟨s, List.mem_filter.2 ⟨hs, by rw [e2]; exact h4⟩, e2⟩
   · exact absurd (cpS_no h fun s hs e => hq ⟨s, hs, e⟩) h2
def fw (cp ms w : List Nat) : Prop := (cpB cp (unM ms w) : Int) < w.length
instance (cp ms w : List Nat) : Decidable (fw cp ms w) := inferInstanceAs (Decidable (_ < _))
theorem fw_iff {S : List Sk} {D : List Nd} {w : List Nat} (h : rok S) (hc : ∀ s ∈ S, 0 ≤ s.copies) (hw : ∀ k ∈ w, k < D.length) : fw (cpS S) (msS D S) w ↔ few S D w := by
 unfold fw few
 rw [cpU_eq h hc hw]
def leL (w l : List Nat) : Prop := w = l ∨ w.length < l.length ∨ w.length = l.length ∧ lexN w l
theorem lexN_tri : ∀ {l m : List Nat}, l.length = m.length → l = m ∨ lexN l m ∨ lexN m l
 | [], [], _ => .inl rfl
 | a :: l, b :: m, h => by
   rcases Nat.lt_trichotomy a b with h1 | h1 | h1
   · exact .inr (.inl (.inl h1))
   · subst h1
     rcases lexN_tri (l := l) (m := m) (by simpa using h) with h2 | h2 | h2
     · exact .inl (by rw [h2])
     · exact .inr (.inl (.inr ⟨rfl, h2⟩))
     · exact .inr (.inr (.inr ⟨rfl, h2⟩))
   · exact .inr (.inr (.inl h1))
theorem leL_trans {a b c : List Nat} (h1 : leL a b) (h2 : leL b c) : leL a c := by
 rcases h1 with rfl | h1 | ⟨h1, h3⟩
 · exact h2
 · rcases h2 with rfl | h2 | ⟨h2, h4⟩
   · exact .inr (.inl h1)
   · exact .inr (.inl (by omega))
   · exact .inr (.inl (by omega))
 · rcases h2 with rfl | h2 | ⟨h2, h4⟩
   · exact .inr (.inr ⟨h1, h3⟩)
   · exact .inr (.inl (by omega))
   · exact .inr (.inr ⟨by omega, lexN_trans h3 h4⟩)
def bstM (cp ms : List Nat) (k : Nat) : Option (List Nat) → Prop
 | none => ∀ m, m < k → ¬ fw cp ms (mb m)
 | some w => w ≠ [] ∧ (∃ m, m < k ∧ w = mb m) ∧ fw cp ms w ∧ ∀ m, m < k → fw cp ms (mb m) → leL w (mb m)
theorem fw_pos {cp ms w : List Nat} (h : fw cp ms w) : w ≠ [] := fun e => by
 subst e
 unfold fw at h
 simp at h
 omega
theorem bstM_skip {cp ms : List Nat} {k : Nat} {o : Option (List Nat)} (h : bstM cp ms k o) (hk : ¬ fw cp ms (mb k)) : bstM cp ms (k + 1) o := by
 have hs : ∀ m, m < k + 1 → fw cp ms (mb m) → m < k := fun m hm hf => by
   rcases Nat.lt_succ_iff_lt_or_eq.1 hm with h1 | rfl
   · exact h1
   · exact absurd hf hk
 cases o with
 | none => exact fun m hm hf => h m (hs m hm hf) hf
 | some w =>
   obtain ⟨h1, ⟨m, h2, h3⟩, h4, h5⟩ := h
   exact ⟨h1, ⟨m, by omega, h3⟩, h4, fun m hm hf => h5 m (hs m hm hf) hf⟩
theorem bstM_keep {cp ms : List Nat} {k : Nat} {w : List Nat} (h : bstM cp ms k (some w)) (hk : leL w (mb k)) : bstM cp ms (k + 1) (some w) := by
 obtain ⟨h1, ⟨m, h2, h3⟩, h4, h5⟩ := h
 refine ⟨h1, ⟨m, by omega, h3⟩, h4, fun m hm hf => ?_⟩
 rcases Nat.lt_succ_iff_lt_or_eq.1 hm with h1 | rfl
 · exact h5 m h1 hf
 · exact hk
theorem bstM_first {cp ms : List Nat} {k : Nat} (h : bstM cp ms k none) (hk : fw cp ms (mb k)) : bstM cp ms (k + 1) (some (mb k)) := by
 refine ⟨fw_pos hk, ⟨k, Nat.lt_succ_self k, rfl⟩, hk, fun m hm hf => ?_⟩
 rcases Nat.lt_succ_iff_lt_or_eq.1 hm with h1 | rfl
 · exact absurd hf (h m h1)
 · exact .inl rfl
theorem bstM_new {cp ms : List Nat} {k : Nat} {w : List Nat} (h : bstM cp ms k (some w)) (hk : fw cp ms (mb k)) (hl : leL (mb k) w) : bstM cp ms (k + 1) (some (mb k)) := by
 refine ⟨fw_pos hk, ⟨k, Nat.lt_succ_self k, rfl⟩, hk, fun m hm hf => ?_⟩
 rcases Nat.lt_succ_iff_lt_or_eq.1 hm with h1 | rfl
 · exact leL_trans hl (h.2.2.2 m h1 hf)
 · exact .inl rfl
theorem bstM_last {S : List Sk} {D : List Nd} (h : rok S) (hc : ∀ s ∈ S, 0 ≤ s.copies) {B : Nat} (hB : B ≤ 6) (hD : B ≤ D.length) (hex : ∃ w, incN w 0 B ∧ few S D w) {o : Option (List Nat)} (hb : bstM (cpS S) (msS D S) (2 ^ B) o) : o = hallR S D B := by
 obtain ⟨l, e, hl⟩ := hallR_spec (S := S) (D := D) hc hex
 rw [e]
 have hfw : ∀ {w : List Nat}, incN w 0 B → (fw (cpS S) (msS D S) w ↔ few S D w) := fun {w} hw => fw_iff h hc fun k hk => by have := (hw.2 k hk).2; omega
 cases o with
 | none =>
   have := hb (mkM l) (mkM_lt fun x hx => (hl.1.2 x hx).2)
   rw [mb_mkM hB hl.1] at this
   exact absurd ((hfw hl.1).2 hl.2.1) this
 | some w =>
   obtain ⟨_, ⟨m, h2, rfl⟩, h4, h5⟩ := hb
   have hw := mb_inc h2
   refine congrArg some (hallP_one (B := B) ⟨hw, (hfw hw).1 h4, fun m' h6 h7 => ?_⟩ hl)
   have := h5 (mkM m') (mkM_lt fun x hx => (h6.2 x hx).2)
   rw [mb_mkM hB h6] at this
   exact this ((hfw h6).2 h7)
end Go.Proofs.YthldjgjpokjliaaDoor
/- Schedules: the program's Longest and Hall. Conditions: none. -/
namespace Go.Proofs.YthldjgjpokjliaaDoor
open Go.Avc
theorem cpS_bd {S : List Sk} (h : rok S) (hc : ∀ s ∈ S, s.copies ≤ 16) (r : Nat) : (cpS S).getD r 0 ≤ 16 := by
 by_cases hq : ∃ s ∈ S, s.round = (r : Int)
 · obtain ⟨s, hs, e⟩ := hq
   obtain ⟨j, hj, rfl⟩ := List.getElem_of_mem hs
   have := cpS_at h hj
   rw [e, Int.toNat_natCast] at this
   have := hc _ hs
   omega
 · rw [cpS_no h fun s hs e => hq ⟨s, hs, e⟩]
   exact Nat.zero_le _
def whE : Option (List Nat) → PV
 | none => .val (.slice none 0 0)
 | some w => encIs (natI w)
attribute [local irreducible] PSub Wp PSpec Le Need Both
theorem Longest_spec (S : List Sk) (D : List Nd) (h : Small S D) : PSpec Tryd.prog 12 [encSks S, encNds D] (lgE S D) := by
 obtain ⟨hS, hD, hn⟩ := h
 have qk := check_spec S D (by omega) (by omega) (fun n hm => by have := hn n hm; omega)
 by_cases hk : chkP S D
 case neg =>
   rw [show lgE S D = .tup [encIs [], .int 320] from if_neg hk]
   rw [show chkE S D = 320 from if_neg hk] at qk
   refine PSpec.of_vc (fun Γ => more8 false Γ.P Γ.fx) (fun Γ => more8_ok) Tryd.func12 rfl Tryd.call12 (by simp) ?_
   rintro ⟨P, N, w0, X, β0, fx, y, hy, pk, df⟩ rfl rfl rfl hoff rfl; change y.on = false at hoff
   skip
   refine .inl ⟨_, qk, ?_⟩
   skip
   exact PSub.tup ⟨PSub.nil 1, PSub.refl _, trivial⟩
 rw [show chkE S D = 0 from if_pos hk] at qk
 rw [show lgE S D = .tup [encIs (lgR D S), .int 0] from if_pos hk]
 obtain ⟨hr, hc0⟩ := chk_rok hk
 have hc16 : ∀ s ∈ S, s.copies ≤ 16 := fun s hs => (hk.2.2.1 s hs).2.1
 have hDk := hk.2.1
 have qp := newPlan_spec S D hr (fun s hs => ⟨hc0 s hs, by have := hc16 s hs; omega⟩) hS hD hn
 obtain ⟨l0, e0, hl0⟩ := lgR_spec (D := D) hr hc0
 have ql := longest_spec (cpS S) (msS D S) l0 (by rw [msS_len]; omega) (fun i => msS_lt hr i) (cpS_len S) (fun r => by have := cpS_bd hr hc16 r; omega) hl0
 rw [e0]
 have hq : (.sl 1 (l0.map fun x : Nat => [PV.int x]) : PV) = encIs (natI l0) := by unfold encIs natI; rw [List.map_map]; rfl
 rw [hq] at ql
 refine PSpec.of_vc (fun Γ => more8 false Γ.P Γ.fx) (fun Γ => more8_ok) Tryd.func12 rfl Tryd.call12 (by simp) ?_
 rintro ⟨P, N, w0, X, β0, fx, y, hy, pk, df⟩ rfl rfl rfl hoff rfl; change y.on = false at hoff
 skip
 refine .inl ⟨_, qk, ?_⟩
 skip
 refine .inl ⟨_, qp, ?_⟩
 repeat' ((try conv => whnf); first|refine aq rfl ?_|fail)
 refine .inl ⟨_, ql, ?_⟩
 repeat' ((try conv => whnf); first|refine aq rfl ?_|fail)
 exact PSub.refl _
theorem hall_bound (n : Nat) (h : n < 6) : IntKind.i64.wrap (1 * 2 ^ (min ((n : Int) + 1).toNat IntKind.i64.bits)) = ((2 ^ (n + 1) : Nat) : Int) := by
 have : n = 0 ∨ n = 1 ∨ n = 2 ∨ n = 3 ∨ n = 4 ∨ n = 5 := by omega
 rcases this with rfl | rfl | rfl | rfl | rfl | rfl <;> decide
theorem Hall_spec (S : List Sk) (D : List Nd) (h : Small S D) (h6 : D.length ≤ 6) : PSpec Tryd.prog 17 [encSks S, encNds D] (hallE S D) := by
 obtain ⟨hS, hD, hn⟩ := h
 have lD : (D.map encNd).length = D.length := List.length_map ..
 have qk := check_spec S D (by omega) (by omega) (fun n hm => by have := hn n hm; omega)
 by_cases hk : chkP S D
 case neg =>
   rw [show hallE S D = .tup [encIs [], .bool false, .int 320] from if_neg hk]
   rw [show chkE S D = 320 from if_neg hk] at qk
   refine PSpec.of_vc (fun Γ => more8 false Γ.P Γ.fx) (fun Γ => more8_ok) Tryd.func17 rfl Tryd.call17 (by simp) ?_
   rintro ⟨P, N, w0, X, β0, fx, y, hy, pk, df⟩ rfl rfl rfl hoff rfl; change y.on = false at hoff
   skip
   refine .inl ⟨_, qk, ?_⟩
   skip
   exact PSub.tup ⟨PSub.nil 1, PSub.refl _, PSub.refl _, trivial⟩
 rw [show chkE S D = 0 from if_pos hk] at qk
 rw [show hallE S D = _ from if_pos hk]
 obtain ⟨hr, hc0⟩ := chk_rok hk
 have hc16 : ∀ s ∈ S, s.copies ≤ 16 := fun s hs => (hk.2.2.1 s hs).2.1
 have qp := newPlan_spec S D hr (fun s hs => ⟨hc0 s hs, by have := hc16 s hs; omega⟩) hS hD hn
 have hlen := lgR_len (D := D) hr hc0
 have hle := srvL_le (msS D S) (cpS S)
 rw [msS_len] at hle
 have hex := hall_ex (D := D) hr hc0
 unfold hallO
 rw [hlen]
 have hcb : ∀ r, (cpS S).getD r 0 ≤ 1000 := fun r => by have := cpS_bd hr hc16 r; omega
 have qs := served_spec (msS D S) (cpS S) (msS D S) (by rw [msS_len]; omega) (fun i => msS_lt hr i) (cpS_len S) hcb
 have hlast := fun (B : Nat) hB hD hx o hb => bstM_last (S := S) (D := D) hr hc0 (B := B) hB hD hx (o := o) hb
 have hfew := fun (m : Nat) hm hmk => few_spec (cpS S) (msS D S) m hm hmk (by rw [msS_len]; omega) (fun i => msS_lt hr i) (cpS_len S) hcb
 have hnth : nth (pures (dropN 64 (planC (cpS S) (msS D S)))) 0 = some (.pure (encMs (msS D S))) := by
   rw [dropN_eq]
   unfold planC
   rw [List.drop_append_of_le_length (by simp [cpS_len]), List.drop_of_length_le (by simp [cpS_len])]
   rfl
 have hml := msS_len D S
 obtain ⟨n, hnd⟩ : ∃ n, n = srvL (msS D S) (cpS S) := ⟨_, rfl⟩
 rw [← hnd] at hle hex qs ⊢
 obtain ⟨cp, hcp⟩ : ∃ cp, cp = cpS S := ⟨_, rfl⟩
 obtain ⟨ms, hms⟩ : ∃ ms, ms = msS D S := ⟨_, rfl⟩
 rw [← hcp, ← hms] at qp qs hnth hlast hfew
 rw [← hms] at hml
 by_cases hfull : n = D.length
 · rw [if_pos hfull]
   refine PSpec.of_vc (fun Γ => more8 false Γ.P Γ.fx) (fun Γ => more8_ok) Tryd.func17 rfl Tryd.call17 (by simp) ?_
   rintro ⟨P, N, w0, X, β0, fx, y, hy, pk, df⟩ rfl rfl rfl hoff rfl; change y.on = false at hoff
   skip
   refine .inl ⟨_, qk, ?_⟩
   skip
   refine .inl ⟨_, qp, ?_⟩
   repeat' ((try conv => whnf); first|refine aq rfl ?_|fail)
   conv => whnf
   refine match_some hnth ?_
   skip
   refine .inl ⟨_, qs, ?_⟩
   repeat' ((try conv => whnf); first|(first|refine k3 ?_ ?_|refine k4 ?_ ?_) <;> intro hb <;> (try rw [lM] at hb) <;> try (exfalso; omega)|fail)
   exact PSub.tup ⟨PSub.nil 1, PSub.refl _, PSub.refl _, trivial⟩
 rw [if_neg hfull]
 have hB : n + 1 ≤ 6 := by omega
 have hp2 := pow_six hB
 have hsh := hall_bound n (by omega)
 obtain ⟨M, hM⟩ : ∃ M, M = 2 ^ (n + 1) := ⟨_, rfl⟩
 rw [← hM] at hsh hp2
 refine PSpec.of_vc (fun Γ => more8 false Γ.P Γ.fx) (fun Γ => more8_ok) Tryd.func17 rfl Tryd.call17 (by simp) ?_
 rintro ⟨P, N, w0, X, β0, fx, y, hy, pk, df⟩ rfl rfl rfl hoff rfl; change y.on = false at hoff
 skip
 refine .inl ⟨_, qk, ?_⟩
 skip
 refine .inl ⟨_, qp, ?_⟩
 repeat' ((try conv => whnf); first|refine aq rfl ?_|fail)
 conv => whnf
 refine match_some hnth ?_
 skip
 refine .inl ⟨_, qs, ?_⟩
 repeat' ((try conv => whnf); first|(first|refine k3 ?_ ?_|refine k4 ?_ ?_) <;> intro hb <;> (try rw [lM] at hb) <;> try (exfalso; omega)|refine s4 nm ?_|refine aq bd ?_|fail)
 refine ⟨_, hsh, ?_⟩
 skip
 refine Wp.loop (fun ko : Nat × Option (List Nat) => ⟨[(4, .pure (whE ko.2)), (8, .pure (.ptr (planC cp ms))), (34, .int M), (35, .int ko.1)], [], []⟩) (fun ko => ko.1 ≤ M ∧ bstM cp ms ko.1 ko.2) (fun ko => M - ko.1) (0, none)
   (Le.of ?_ ?_ rfl rfl rfl) ⟨Nat.zero_le _, fun m hm => absurd hm (Nat.not_lt_zero _)⟩ ?_
 · (repeat' (first|exact trivial|refine aq ?_ ?_|exact oq|fail))
 · (repeat' (first|exact trivial|fail))
 rintro ⟨k, o⟩ ⟨hkM, hb⟩
 simp only at hkM hb ⊢
 by_cases hk2 : k < M
 · have ew : IntKind.u64.wrap ((k : Nat) : Int) = (k : Nat) := by rw [wrap_u64]; omega
   have qo := ones_spec k (by omega)
   have qm := members_spec k (by omega)
   have hkin := mb_inc (m := k) (B := n + 1) (by rw [← hM]; exact hk2)
   have qf := hfew k (by omega) (fun j hj => by have := (hkin.2 j hj).2; omega)
   have hml6 : (mb k).length ≤ 6 := by have := List.length_filter_le (fun j => k.testBit j) (List.range 6); simpa [mb] using this
   cases o with
   | none =>
     by_cases hf : fw cp ms (mb k)
     · rw [decide_eq_true (show (cpB cp (unM ms (mb k)) : Int) < (mb k).length from hf)] at qf
       have hnx := bstM_first hb hf
       refine code_sound (more := more8 false _ _) more8_ok FOK.wide _ ?_
       repeat' ((try conv => whnf); first|(first|refine k3 ?_ ?_|refine k4 ?_ ?_) <;> intro hb <;> (try rw [lM] at hb) <;> try (exfalso; omega)|fail)
       refine ⟨_, ew, ?_⟩
       skip
       refine .inl ⟨_, qo, ?_⟩
       skip
       refine .inl ⟨_, qf, ?_⟩
       skip
       refine .inl ⟨_, qm, ?_⟩
       repeat' ((try conv => whnf); first|refine aq rfl ?_|refine s4 nm ?_|fail)
       exact ⟨(k + 1, some (mb k)), Le.of (by (repeat' (first|exact trivial|refine aq ?_ ?_|exact oq|fail))) (by (repeat' (first|exact trivial|fail))) rfl rfl rfl, ⟨hk2, hnx⟩, by show M - (k + 1) < M - k; omega⟩
     · rw [decide_eq_false (show ¬ (cpB cp (unM ms (mb k)) : Int) < (mb k).length from hf)] at qf
       have hnx := bstM_skip hb hf
       refine code_sound (more := more8 false _ _) more8_ok FOK.wide _ ?_
       repeat' ((try conv => whnf); first|(first|refine k3 ?_ ?_|refine k4 ?_ ?_) <;> intro hb <;> (try rw [lM] at hb) <;> try (exfalso; omega)|fail)
       refine ⟨_, ew, ?_⟩
       skip
       refine .inl ⟨_, qo, ?_⟩
       skip
       refine .inl ⟨_, qf, ?_⟩
       repeat' ((try conv => whnf); first|refine s4 nm ?_|fail)
       exact ⟨(k + 1, none), Le.of (by (repeat' (first|exact trivial|refine aq ?_ ?_|exact oq|fail))) (by (repeat' (first|exact trivial|fail))) rfl rfl rfl, ⟨hk2, hnx⟩, by show M - (k + 1) < M - k; omega⟩
   | some w =>
     have lW : ((natI w).map fun x => [PV.int x]).length = w.length := by rw [List.length_map, natI_len]
     have lW1 : (natI w).length = w.length := natI_len w
     have hwl : w.length ≤ 6 := by
       obtain ⟨_, ⟨m, _, rfl⟩, _⟩ := hb
       have := List.length_filter_le (fun j => m.testBit j) (List.range 6)
       simpa [mb] using this
     have hne : ((natI w).map fun x => [PV.int x]) ≠ [] := fun e => by
       have e2 := congrArg List.length e
       rw [lW] at e2
       exact hb.1 (List.eq_nil_of_length_eq_zero e2)
     by_cases hm1 : w.length < (mb k).length
     · have hnx := bstM_keep hb (.inr (.inl hm1))
       refine code_sound (more := more8 false _ _) more8_ok FOK.wide _ ?_
       repeat' ((try conv => whnf); first|(first|refine k3 ?_ ?_|refine k4 ?_ ?_) <;> intro hb <;> (try rw [lM] at hb) <;> try (exfalso; omega)|fail)
       refine ⟨_, ew, ?_⟩
       skip
       refine .inl ⟨_, qo, ?_⟩
       skip
       intro r hr
       obtain rfl : r = true := by
         cases r with
         | true => rfl
         | false => exact absurd (hr rfl) hne
       repeat' ((try conv => whnf); first|(first|refine k3 ?_ ?_|refine k4 ?_ ?_) <;> intro hb <;> (try rw [lM] at hb) <;> try (exfalso; omega)|refine s4 nm ?_|fail)
       exact ⟨(k + 1, some w), Le.of (by (repeat' (first|exact trivial|refine aq ?_ ?_|exact oq|fail))) (by (repeat' (first|exact trivial|fail))) rfl rfl rfl, ⟨hk2, hnx⟩, by show M - (k + 1) < M - k; omega⟩
     by_cases hf : fw cp ms (mb k)
     case neg =>
       rw [decide_eq_false (show ¬ (cpB cp (unM ms (mb k)) : Int) < (mb k).length from hf)] at qf
       have hnx := bstM_skip hb hf
       refine code_sound (more := more8 false _ _) more8_ok FOK.wide _ ?_
       repeat' ((try conv => whnf); first|(first|refine k3 ?_ ?_|refine k4 ?_ ?_) <;> intro hb <;> (try rw [lM] at hb) <;> try (exfalso; omega)|fail)
       refine ⟨_, ew, ?_⟩
       skip
       refine .inl ⟨_, qo, ?_⟩
       skip
       intro r hr
       obtain rfl : r = true := by
         cases r with
         | true => rfl
         | false => exact absurd (hr rfl) hne
       repeat' ((try conv => whnf); first|(first|refine k3 ?_ ?_|refine k4 ?_ ?_) <;> intro hb <;> (try rw [lM] at hb) <;> try (exfalso; omega)|fail)
       refine .inl ⟨_, qf, ?_⟩
       repeat' ((try conv => whnf); first|refine s4 nm ?_|fail)
       exact ⟨(k + 1, some w), Le.of (by (repeat' (first|exact trivial|refine aq ?_ ?_|exact oq|fail))) (by (repeat' (first|exact trivial|fail))) rfl rfl rfl, ⟨hk2, hnx⟩, by show M - (k + 1) < M - k; omega⟩
     rw [decide_eq_true (show (cpB cp (unM ms (mb k)) : Int) < (mb k).length from hf)] at qf
     by_cases hm2 : (mb k).length < w.length
     · have hnx := bstM_new hb hf (.inr (.inl hm2))
       refine code_sound (more := more8 false _ _) more8_ok FOK.wide _ ?_
       repeat' ((try conv => whnf); first|(first|refine k3 ?_ ?_|refine k4 ?_ ?_) <;> intro hb <;> (try rw [lM] at hb) <;> try (exfalso; omega)|fail)
       refine ⟨_, ew, ?_⟩
       skip
       refine .inl ⟨_, qo, ?_⟩
       skip
       intro r hr
       obtain rfl : r = true := by
         cases r with
         | true => rfl
         | false => exact absurd (hr rfl) hne
       repeat' ((try conv => whnf); first|(first|refine k3 ?_ ?_|refine k4 ?_ ?_) <;> intro hb <;> (try rw [lM] at hb) <;> try (exfalso; omega)|fail)
       refine .inl ⟨_, qf, ?_⟩
       skip
       refine .inl ⟨_, qm, ?_⟩
       repeat' ((try conv => whnf); first|refine aq rfl ?_|fail)
       intro r hr
       obtain rfl : r = false := by
         cases r with
         | false => rfl
         | true => exact absurd (hr rfl) hne
       repeat' ((try conv => whnf); first|(first|refine k3 ?_ ?_|refine k4 ?_ ?_) <;> intro hb <;> (try rw [lM] at hb) <;> try (exfalso; omega)|refine s4 nm ?_|fail)
       exact ⟨(k + 1, some (mb k)), Le.of (by (repeat' (first|exact trivial|refine aq ?_ ?_|exact oq|fail))) (by (repeat' (first|exact trivial|fail))) rfl rfl rfl, ⟨hk2, hnx⟩, by show M - (k + 1) < M - k; omega⟩
     have hm3 : (mb k).length = w.length := by omega
     have qc := compare_spec (mb k) w (by omega) (by omega)
     have hlex := cmpN_lex hm3
     obtain ⟨c, hc⟩ : ∃ c, c = cmpN (mb k) w := ⟨_, rfl⟩
     rw [← hc] at qc hlex
     by_cases hc2 : c < 0
     · have hnx := bstM_new hb hf (.inr (.inr ⟨hm3, hlex.1 hc2⟩))
       refine code_sound (more := more8 false _ _) more8_ok FOK.wide _ ?_
       repeat' ((try conv => whnf); first|(first|refine k3 ?_ ?_|refine k4 ?_ ?_) <;> intro hb <;> (try rw [lM] at hb) <;> try (exfalso; omega)|fail)
       refine ⟨_, ew, ?_⟩
       skip
       refine .inl ⟨_, qo, ?_⟩
       skip
       intro r hr
       obtain rfl : r = true := by
         cases r with
         | true => rfl
         | false => exact absurd (hr rfl) hne
       repeat' ((try conv => whnf); first|(first|refine k3 ?_ ?_|refine k4 ?_ ?_) <;> intro hb <;> (try rw [lM] at hb) <;> try (exfalso; omega)|fail)
       refine .inl ⟨_, qf, ?_⟩
       skip
       refine .inl ⟨_, qm, ?_⟩
       repeat' ((try conv => whnf); first|refine aq rfl ?_|fail)
       intro r hr
       obtain rfl : r = false := by
         cases r with
         | false => rfl
         | true => exact absurd (hr rfl) hne
       repeat' ((try conv => whnf); first|(first|refine k3 ?_ ?_|refine k4 ?_ ?_) <;> intro hb <;> (try rw [lM] at hb) <;> try (exfalso; omega)|fail)
       refine .inl ⟨_, qc, ?_⟩
       repeat' ((try conv => whnf); first|(first|refine k3 ?_ ?_|refine k4 ?_ ?_) <;> intro hb <;> (try rw [lM] at hb) <;> try (exfalso; omega)|refine s4 nm ?_|fail)
       exact ⟨(k + 1, some (mb k)), Le.of (by (repeat' (first|exact trivial|refine aq ?_ ?_|exact oq|fail))) (by (repeat' (first|exact trivial|fail))) rfl rfl rfl, ⟨hk2, hnx⟩, by show M - (k + 1) < M - k; omega⟩
     · have hnx := bstM_keep hb (by
         rcases lexN_tri hm3 with h1 | h1 | h1
         · exact .inl h1.symm
         · exact absurd (hlex.2 h1) hc2
         · exact .inr (.inr ⟨hm3.symm, h1⟩))
       refine code_sound (more := more8 false _ _) more8_ok FOK.wide _ ?_
       repeat' ((try conv => whnf); first|(first|refine k3 ?_ ?_|refine k4 ?_ ?_) <;> intro hb <;> (try rw [lM] at hb) <;> try (exfalso; omega)|fail)
       refine ⟨_, ew, ?_⟩
       skip
       refine .inl ⟨_, qo, ?_⟩
       skip
       intro r hr
       obtain rfl : r = true := by
         cases r with
         | true => rfl
         | false => exact absurd (hr rfl) hne
       repeat' ((try conv => whnf); first|(first|refine k3 ?_ ?_|refine k4 ?_ ?_) <;> intro hb <;> (try rw [lM] at hb) <;> try (exfalso; omega)|fail)
       refine .inl ⟨_, qf, ?_⟩
       skip
       refine .inl ⟨_, qm, ?_⟩
       repeat' ((try conv => whnf); first|refine aq rfl ?_|fail)
       intro r hr
       obtain rfl : r = false := by
         cases r with
         | false => rfl
         | true => exact absurd (hr rfl) hne
       repeat' ((try conv => whnf); first|(first|refine k3 ?_ ?_|refine k4 ?_ ?_) <;> intro hb <;> (try rw [lM] at hb) <;> try (exfalso; omega)|fail)
       refine .inl ⟨_, qc, ?_⟩
       repeat' ((try conv => whnf); first|(first|refine k3 ?_ ?_|refine k4 ?_ ?_) <;> intro hb <;> (try rw [lM] at hb) <;> try (exfalso; omega)|refine s4 nm ?_|fail)
       exact ⟨(k + 1, some w), Le.of (by (repeat' (first|exact trivial|refine aq ?_ ?_|exact oq|fail))) (by (repeat' (first|exact trivial|fail))) rfl rfl rfl, ⟨hk2, hnx⟩, by show M - (k + 1) < M - k; omega⟩
 · have e : k = M := by omega
   subst e
   rw [hM] at hb
   have hres := hlast (n + 1) hB (by omega) (hex (by omega)) o hb
   obtain ⟨w, e, _⟩ := hallR_spec (S := S) (D := D) hc0 (hex (by omega))
   rw [e] at hres ⊢
   subst hres
   refine code_sound (more := more8 false _ _) more8_ok FOK.wide _ ?_
   repeat' ((try conv => whnf); first|(first|refine k3 ?_ ?_|refine k4 ?_ ?_) <;> intro hb <;> (try rw [lM] at hb) <;> try (exfalso; omega)|fail)
   exact PSub.refl _
end Go.Proofs.YthldjgjpokjliaaDoor
