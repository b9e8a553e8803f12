/- Versions: the neighbours of schemas. Conditions: none. -/
import Derived.Test.YtihbkbioafdhjaaWd
import Derived.Test.YtihbkbioafdhjaaWg
import Derived.Test.YtihbkbioafdhjaaWf
import Derived.Test.YtihbkbioafdhjaaWh
set_option linter.unusedSimpArgs false
set_option linter.unusedVariables false
set_option maxRecDepth 20000
set_option maxHeartbeats 4000000
namespace Go.Proofs.Ytihbkbioafdhjaa
open Go.Avc
def nbL : Nat → List Cv → List (Int × List PV)
 | _, [] => []
 | n, c :: l => (c.a, [.int (2 * n), .int c.b]) :: (c.b, [.int (2 * n + 1), .int c.a]) :: nbL (n + 1) l
theorem nbL_len : ∀ (n : Nat) (l : List Cv), (nbL n l).length = 2 * l.length
 | _, [] => rfl
 | n, c :: l => by simp only [nbL, List.length_cons, nbL_len (n + 1) l]; omega
theorem nbL_at : ∀ (n : Nat) (l : List Cv) (i : Nat) (h : i < l.length), (nbL n l)[2 * i]? = some (l[i].a, [.int (2 * ((n + i : Nat) : Int)), .int l[i].b]) ∧ (nbL n l)[2 * i + 1]? = some (l[i].b, [.int (2 * ((n + i : Nat) : Int) + 1), .int l[i].a])
 | n, c :: l, 0, h => by simp [nbL]
 | n, c :: l, i + 1, h => by
   have := nbL_at (n + 1) l i (by simpa using h)
   rw [show 2 * (i + 1) = 2 * i + 1 + 1 by omega]
   simp only [nbL, List.getElem?_cons_succ, List.getElem_cons_succ]
   rw [show n + (i + 1) = n + 1 + i by omega]
   exact this
theorem nbL_val : ∀ (n : Nat) (l : List Cv), ∀ q ∈ nbL n l, ∀ p ∈ q.2, ∃ v, p = .val v
 | _, [], q, hq => by cases hq
 | n, c :: l, q, hq => by
   simp only [nbL, List.mem_cons] at hq
   rcases hq with rfl | rfl | hq
   · intro p hp; simp only [List.mem_cons, List.not_mem_nil, or_false] at hp; rcases hp with rfl | rfl <;> exact ⟨_, rfl⟩
   · intro p hp; simp only [List.mem_cons, List.not_mem_nil, or_false] at hp; rcases hp with rfl | rfl <;> exact ⟨_, rfl⟩
   · exact nbL_val (n + 1) l q hq
attribute [local irreducible] PSub Wp PSpec Le Need Both
def nbPV (l : List Cv) : PV := .mp ((gks (nbL 0 l)).map intK.val) ((gks (nbL 0 l)).map fun k => .sl 2 (grw (nbL 0 l) k))
theorem neighbours_spec (x : Src) (hl : x.converts.length ≤ 1000) : PSpec Try.prog 30 [.agg (encSrc x)] (.fn 44 [.ptr [nbPV x.converts]]) := by
 refine PSpec.of_wpGF intK 2 (nbL 0 x.converts) 44 (by decide) (t := 2) Try.func30 rfl Try.call30 (by simp) rfl ?_
 intro Γ h1 h2 h3 h4 h5
 refine code_soundG (more := more8 false _ _) more8_ok FOK.wide _ ?_
 revert Γ
 rintro ⟨P, N, w0, X, β0, fx, y, hy, pk, df⟩ rfl rfl rfl rfl hG
 have hL : (nbL 0 x.converts).length = 2 * x.converts.length := nbL_len 0 _
 have hval : ∀ q ∈ nbL 0 x.converts, ∀ p ∈ q.2, ∃ v, p = .val v := nbL_val 0 _
 have hz : ∀ u : World, (zeroValue 94).run Try.prog u = .ok (.slice none 0 0) u := zeroNil (by kernel_rfl)
 have hok : intK.ok Try.prog 3 = true := by kernel_rfl
 obtain ⟨zv, hz2⟩ : ∃ zv, ∀ w : World, (zeroValue 95).run Try.prog w = .ok zv w := zeroAny (by kernel_rfl)
 skip
 refine Wp.mkMap (more := more8 false _ _) (rest := [_, _]) more8_ok FOK.wide hG rfl rfl rfl rfl rfl (Nat.le_of_ble_eq_true rfl) rfl fun mb => ?_
 repeat' ((try conv => whnf); first|refine aq rfl ?_|fail)
 refine Wp.loop (fun i : Nat => ⟨[(3, .loc 3 0 0), (8, .pure (.sl 5 (x.converts.map encCv))), (9, .int x.converts.length), (10, .int i), (46, .gh (gIx (nbL 0 x.converts).length mb (2 * i)) false)], [(3, some (.box [.pure (.val (.map (some mb)))]))], [3]⟩) (fun i => i ≤ x.converts.length) (fun i => x.converts.length - i) 0 (Le.of ?_ ?_ rfl rfl rfl) (by omega) ?_
 · (repeat' (first|exact trivial|refine aq ?_ ?_|exact oq|exact l1 bd|fail))
 · (repeat' (first|exact trivial|refine aq ?_ ?_|refine Exists.intro _ (aq rfl ?_)|exact oq|fail))
 intro i hi
 by_cases hi2 : i < x.converts.length
 · refine code_soundG (more := more8 false _ _) more8_ok FOK.wide _ ?_
   repeat' ((try conv => whnf); first|(first|refine k3 ?_ ?_|refine k4 ?_ ?_) <;> intro hb <;> (try rw [lM] at hb) <;> try (exfalso; omega)|refine aq rfl ?_|refine s5 nm nm ?_|fail)
   refine Wp.chain (⟨[(4, .int i), (5, .loc 5 0 0), (3, .loc 3 0 0), (8, .pure (.sl 5 (x.converts.map encCv))), (9, .int x.converts.length), (10, .int i), (46, .gh (gIx (nbL 0 x.converts).length mb (2 * i + 1)) false)], [(5, some (.box (pures (encCv x.converts[i])))), (3, some (.box [.pure (.val (.map (some mb)))]))], [5, 3]⟩) ?_ ?_
   · have hLi : 2 * i < (nbL 0 x.converts).length := by omega
     have hLe : (nbL 0 x.converts)[2 * i] = (x.converts[i].a, [.int (2 * (i : Int)), .int x.converts[i].b]) := by
       have := (nbL_at 0 x.converts i hi2).1
       rw [List.getElem?_eq_getElem hLi] at this
       simpa using this
     have hgl : (grw ((nbL 0 x.converts).take (2 * i)) (nbL 0 x.converts)[2 * i].1).length ≤ 2000 := by have := grw_len ((nbL 0 x.converts).take (2 * i)) (nbL 0 x.converts)[2 * i].1; rw [List.length_take] at this; omega
     have hg : grw ((nbL 0 x.converts).take (2 * i + 1)) (nbL 0 x.converts)[2 * i].1 = grw ((nbL 0 x.converts).take (2 * i)) (nbL 0 x.converts)[2 * i].1 ++ [[.int (2 * (i : Int)), .int x.converts[i].b]] := by
       rw [take_at hLi, grw_snoc, if_pos rfl, hLe]
     refine Wp.ofHeld rfl fun a w hR => ?_
     obtain ⟨b3, e3, l3, c3⟩ := hR.boxAt (o := .tmp 3) (k := 3) rfl rfl
     obtain ⟨b5, e5, l5, c5⟩ := hR.boxAt (o := .tmp 5) (k := 5) rfl rfl
     have hm := hR.mapLt hG (i := 2 * i) rfl hLi
     obtain ⟨C1, hC1⟩ : ∃ C1 : World → Prop, C1 = fun w => w.cell? ⟨b3, 0, none⟩ = some (.map (some mb)) ∧ w.cell? ⟨b5, 2, none⟩ = some (.int .i64 x.converts[i].a) ∧ w.cell? ⟨b5, 3, none⟩ = some (.int .i64 x.converts[i].b) := ⟨_, rfl⟩
     have hC : C1 w := by rw [hC1]; exact ⟨c3 0 _ rfl, c5 2 _ rfl, c5 3 _ rfl⟩
     refine ⟨SS C1 (fun w' => w'.heap[mb]? = w.heap[mb]?) 12 14, ?_⟩
     refine held_takeA (i := 0) (d := 15) (v := .map (some mb)) rfl rfl rfl (by kernel_rfl) rfl hC (fun _ => rfl) (fun w h => execLoad rfl (by kernel_rfl) e3 (hC1 ▸ h).1) ?_
     have g0 := hR.putV (d := 15) (Nat.le_of_ble_eq_true rfl) (v := .pure (.val (.map (some mb)))) (u := .map (some mb)) (fun _ _ _ => .pure _ _ (.val _)) rfl
     refine held_takeA (i := 1) (d := 16) (v := .pointer (some ⟨b5, 2, none⟩)) rfl rfl rfl (by kernel_rfl) rfl hC (fun _ => rfl) (fun w h => by refine execField (b := b5) rfl (by kernel_rfl) ?_; rw [evNe (show (15 : Nat) ≠ 5 by decide), e5]) ?_
     have g1 := g0.putV (d := 16) (Nat.le_of_ble_eq_true rfl) (v := .pure (.val (.pointer (some ⟨b5, 2, none⟩)))) (u := .pointer (some ⟨b5, 2, none⟩)) (fun _ _ _ => .pure _ _ (.val _)) rfl
     refine held_takeA (i := 2) (d := 17) (v := .int .i64 x.converts[i].a) rfl rfl rfl (by kernel_rfl) rfl hC (fun _ => rfl) (fun w h => execLoad rfl (by kernel_rfl) (g1.ev (o := .tmp 16) rfl) (hC1 ▸ h).2.1) ?_
     have g2 := g1.putV (d := 17) (Nat.le_of_ble_eq_true rfl) (v := .pure (.val (.int .i64 x.converts[i].a))) (u := .int .i64 x.converts[i].a) (fun _ _ _ => .pure _ _ (.val _)) rfl
     refine held_takeA (i := 3) (d := 18) (v := .map (some mb)) rfl rfl rfl (by kernel_rfl) rfl hC (fun _ => rfl) (fun w h => by refine execLoad rfl (by kernel_rfl) ?_ (hC1 ▸ h).1; rw [evNe (show (17 : Nat) ≠ 3 by decide), evNe (show (16 : Nat) ≠ 3 by decide), evNe (show (15 : Nat) ≠ 3 by decide), e3]) ?_
     have g3 := g2.putV (d := 18) (Nat.le_of_ble_eq_true rfl) (v := .pure (.val (.map (some mb)))) (u := .map (some mb)) (fun _ _ _ => .pure _ _ (.val _)) rfl
     refine held_takeA (i := 4) (d := 19) (v := .pointer (some ⟨b5, 2, none⟩)) rfl rfl rfl (by kernel_rfl) rfl hC (fun _ => rfl) (fun w h => by refine execField (b := b5) rfl (by kernel_rfl) ?_; rw [evNe (show (18 : Nat) ≠ 5 by decide), evNe (show (17 : Nat) ≠ 5 by decide), evNe (show (16 : Nat) ≠ 5 by decide), evNe (show (15 : Nat) ≠ 5 by decide), e5]) ?_
     have g4 := g3.putV (d := 19) (Nat.le_of_ble_eq_true rfl) (v := .pure (.val (.pointer (some ⟨b5, 2, none⟩)))) (u := .pointer (some ⟨b5, 2, none⟩)) (fun _ _ _ => .pure _ _ (.val _)) rfl
     refine held_takeA (i := 5) (d := 20) (v := .int .i64 x.converts[i].a) rfl rfl rfl (by kernel_rfl) rfl hC (fun _ => rfl) (fun w h => execLoad rfl (by kernel_rfl) (g4.ev (o := .tmp 19) rfl) (hC1 ▸ h).2.1) ?_
     have g5 := g4.putV (d := 20) (Nat.le_of_ble_eq_true rfl) (v := .pure (.val (.int .i64 x.converts[i].a))) (u := .int .i64 x.converts[i].a) (fun _ _ _ => .pure _ _ (.val _)) rfl
     refine held_takeA (i := 7) (d := 22) (v := .int .i64 i) rfl rfl rfl (by kernel_rfl) rfl hC (fun _ => rfl) (fun w h => execMove rfl (g5.ev (o := .tmp 4) rfl)) ?_
     have g6 := g5.putV (d := 22) (Nat.le_of_ble_eq_true rfl) (v := .pure (.val (.int .i64 i))) (u := .int .i64 i) (fun _ _ _ => .pure _ _ (.val _)) rfl
     refine held_takeA (i := 8) (d := 23) (v := .int .i64 (2 * (i : Int))) rfl rfl rfl (by kernel_rfl) rfl hC (fun _ => rfl) (fun w h => execMul rfl rfl (g6.ev (o := .tmp 22) rfl) (by omega) (by omega)) ?_
     have g7 := g6.putV (d := 23) (Nat.le_of_ble_eq_true rfl) (v := .pure (.val (.int .i64 (2 * (i : Int))))) (u := .int .i64 (2 * (i : Int))) (fun _ _ _ => .pure _ _ (.val _)) rfl
     refine held_takeA (i := 9) (d := 24) (v := .pointer (some ⟨b5, 3, none⟩)) rfl rfl rfl (by kernel_rfl) rfl hC (fun _ => rfl) (fun w h => by refine execField (b := b5) rfl (by kernel_rfl) ?_; rw [evNe (show (23 : Nat) ≠ 5 by decide), evNe (show (22 : Nat) ≠ 5 by decide), evNe (show (20 : Nat) ≠ 5 by decide), evNe (show (19 : Nat) ≠ 5 by decide), evNe (show (18 : Nat) ≠ 5 by decide), evNe (show (17 : Nat) ≠ 5 by decide), evNe (show (16 : Nat) ≠ 5 by decide), evNe (show (15 : Nat) ≠ 5 by decide), e5]) ?_
     have g8 := g7.putV (d := 24) (Nat.le_of_ble_eq_true rfl) (v := .pure (.val (.pointer (some ⟨b5, 3, none⟩)))) (u := .pointer (some ⟨b5, 3, none⟩)) (fun _ _ _ => .pure _ _ (.val _)) rfl
     refine held_takeA (i := 10) (d := 25) (v := .int .i64 x.converts[i].b) rfl rfl rfl (by kernel_rfl) rfl hC (fun _ => rfl) (fun w h => execLoad rfl (by kernel_rfl) (g8.ev (o := .tmp 24) rfl) (hC1 ▸ h).2.2) ?_
     have g9 := g8.putV (d := 25) (Nat.le_of_ble_eq_true rfl) (v := .pure (.val (.int .i64 x.converts[i].b))) (u := .int .i64 x.converts[i].b) (fun _ _ _ => .pure _ _ (.val _)) rfl
     refine held_takeA (i := 11) (d := 26) (v := .agg #[.int .i64 (2 * (i : Int)), .int .i64 x.converts[i].b]) rfl rfl rfl (by kernel_rfl) rfl hC (fun _ => rfl) (fun w h => execBuild2 rfl (g9.ev (o := .tmp 23) rfl) (g9.ev (o := .tmp 25) rfl) rfl) ?_
     have g10 := g9.putV (d := 26) (Nat.le_of_ble_eq_true rfl) (v := .pure (.agg [.int (2 * (i : Int)), .int x.converts[i].b])) (u := .agg #[.int .i64 (2 * (i : Int)), .int .i64 x.converts[i].b]) (fun _ _ _ => .pure _ _ (pr_agg2 _ _)) rfl
     by_cases hmem : (nbL 0 x.converts)[2 * i].1 ∈ gks ((nbL 0 x.converts).take (2 * i))
     · obtain ⟨v, r1, gT⟩ := g10.lookT hG (i := 2 * i) (mb := mb) rfl hLi Try.underlying93 hok hmem (d := 21) (k := 400) (Nat.le_of_ble_eq_true rfl) (by show 400 ∉ [5, 3]; decide) (by simp)
       refine held_takeB (i := 6) (d := 21) (v := v) rfl rfl rfl (by kernel_rfl) rfl hC rfl (fun _ => rfl) (fun w' h => execLookup rfl (g10.ev (o := .tmp 18) rfl) (g10.ev (o := .tmp 20) rfl) (by have := r1 w' h; rw [hLe] at this; exact this)) ?_
       refine held_lastT (more := more8 false _ _) (os := []) (mb := mb) (k := 28) (p := 12) (d1 := 27) (d2 := 28) (x3 := 3) (x5 := 5) (BX := fun s' => s'.get 3 = .loc 3 0 0 ∧ s'.blk 3 = some (.box [.pure (.val (.map (some mb)))]) ∧ s'.get 5 = .loc 5 0 0 ∧ s'.blk 5 = some (.box (pures (encCv x.converts[i])))) more8_ok FOK.wide rfl hG hval gT rfl rfl rfl ⟨rfl, rfl, rfl⟩ ⟨rfl, rfl, rfl⟩ (by decide) (by kernel_rfl) (by kernel_rfl) (by kernel_rfl) (by kernel_rfl) rfl rfl Try.underlying93 hok hLi (by simp) ?_ ?_ hm hmem ?_
       · rintro s' a' w' ⟨k1, k2, k3, k4⟩ hR' h3 h5
         rw [evNe (show (21 : Nat) ≠ 3 by decide), evNe (show (26 : Nat) ≠ 3 by decide), evNe (show (25 : Nat) ≠ 3 by decide), evNe (show (24 : Nat) ≠ 3 by decide), evNe (show (23 : Nat) ≠ 3 by decide), evNe (show (22 : Nat) ≠ 3 by decide), evNe (show (20 : Nat) ≠ 3 by decide), evNe (show (19 : Nat) ≠ 3 by decide), evNe (show (18 : Nat) ≠ 3 by decide), evNe (show (17 : Nat) ≠ 3 by decide), evNe (show (16 : Nat) ≠ 3 by decide), evNe (show (15 : Nat) ≠ 3 by decide), e3] at h3
         rw [evNe (show (21 : Nat) ≠ 5 by decide), evNe (show (26 : Nat) ≠ 5 by decide), evNe (show (25 : Nat) ≠ 5 by decide), evNe (show (24 : Nat) ≠ 5 by decide), evNe (show (23 : Nat) ≠ 5 by decide), evNe (show (22 : Nat) ≠ 5 by decide), evNe (show (20 : Nat) ≠ 5 by decide), evNe (show (19 : Nat) ≠ 5 by decide), evNe (show (18 : Nat) ≠ 5 by decide), evNe (show (17 : Nat) ≠ 5 by decide), evNe (show (16 : Nat) ≠ 5 by decide), evNe (show (15 : Nat) ≠ 5 by decide), e5] at h5
         obtain ⟨b3', f3, _, d3⟩ := hR'.boxAt (o := .tmp 3) (k := 3) k1 k2
         obtain ⟨b5', f5, _, d5⟩ := hR'.boxAt (o := .tmp 5) (k := 5) k3 k4
         rw [h3] at f3; rw [h5] at f5
         cases f3; cases f5
         rw [hC1]; exact ⟨d3 0 _ rfl, d5 2 _ rfl, d5 3 _ rfl⟩
       · exact execSlice1 rfl Try.underlying94 (by kernel_rfl) (gT.ev2 (o := .tmp 26) rfl) hz2
       skip
       refine ⟨⟨⟨rfl, rfl⟩, trivial⟩, Nat.le_of_ble_eq_true rfl, ?_⟩
       skip
       refine ⟨⟨rfl, rfl, rfl, rfl⟩, ?_⟩
       repeat' ((try conv => whnf); first|refine aq rfl ?_|refine aq bd ?_|fail)
       refine ⟨⟨rfl, rfl, rfl, rfl⟩, rfl, ?_, ?_, ?_, rfl, ?_⟩
       · rw [hLe]; rfl
       · show AV.lsl 28 0 _ = AV.lsl 28 0 _
         rw [hg, List.length_append]
         rfl
       · rw [hg]; rfl
       exact ⟨rfl, Le.of (by (repeat' (first|exact trivial|refine aq ?_ ?_|exact oq|fail))) (by (repeat' (first|exact trivial|refine aq ?_ ?_|refine Exists.intro _ (aq rfl ?_)|exact oq|fail))) rfl rfl rfl⟩
     · have r1 := g10.lookN hG (i := 2 * i) (mb := mb) rfl hLi Try.underlying93 hz hok hmem
       have gT := g10.putV (d := 21) (Nat.le_of_ble_eq_true rfl) (v := .pure (.val (.slice none 0 0))) (u := .slice none 0 0) (fun _ _ _ => .pure _ _ (.val _)) rfl
       refine held_takeB (i := 6) (d := 21) (v := .slice none 0 0) rfl rfl rfl (by kernel_rfl) rfl hC rfl (fun _ => rfl) (fun w' h => execLookup rfl (g10.ev (o := .tmp 18) rfl) (g10.ev (o := .tmp 20) rfl) (by have := r1 w' h; rw [hLe] at this; exact this)) ?_
       refine held_lastN (more := more8 false _ _) (os := []) (mb := mb) (k := 28) (p := 12) (d1 := 27) (d2 := 28) (x3 := 3) (x5 := 5) (BX := fun s' => s'.get 3 = .loc 3 0 0 ∧ s'.blk 3 = some (.box [.pure (.val (.map (some mb)))]) ∧ s'.get 5 = .loc 5 0 0 ∧ s'.blk 5 = some (.box (pures (encCv x.converts[i])))) more8_ok FOK.wide rfl hG hval gT rfl rfl rfl ⟨rfl, rfl, rfl⟩ ⟨rfl, rfl, rfl⟩ (by decide) (by kernel_rfl) (by kernel_rfl) (by kernel_rfl) (by kernel_rfl) rfl rfl Try.underlying93 hok hLi (by simp) ?_ ?_ hm hmem ?_
       · rintro s' a' w' ⟨k1, k2, k3, k4⟩ hR' h3 h5
         rw [evNe (show (21 : Nat) ≠ 3 by decide), evNe (show (26 : Nat) ≠ 3 by decide), evNe (show (25 : Nat) ≠ 3 by decide), evNe (show (24 : Nat) ≠ 3 by decide), evNe (show (23 : Nat) ≠ 3 by decide), evNe (show (22 : Nat) ≠ 3 by decide), evNe (show (20 : Nat) ≠ 3 by decide), evNe (show (19 : Nat) ≠ 3 by decide), evNe (show (18 : Nat) ≠ 3 by decide), evNe (show (17 : Nat) ≠ 3 by decide), evNe (show (16 : Nat) ≠ 3 by decide), evNe (show (15 : Nat) ≠ 3 by decide), e3] at h3
         rw [evNe (show (21 : Nat) ≠ 5 by decide), evNe (show (26 : Nat) ≠ 5 by decide), evNe (show (25 : Nat) ≠ 5 by decide), evNe (show (24 : Nat) ≠ 5 by decide), evNe (show (23 : Nat) ≠ 5 by decide), evNe (show (22 : Nat) ≠ 5 by decide), evNe (show (20 : Nat) ≠ 5 by decide), evNe (show (19 : Nat) ≠ 5 by decide), evNe (show (18 : Nat) ≠ 5 by decide), evNe (show (17 : Nat) ≠ 5 by decide), evNe (show (16 : Nat) ≠ 5 by decide), evNe (show (15 : Nat) ≠ 5 by decide), e5] at h5
         obtain ⟨b3', f3, _, d3⟩ := hR'.boxAt (o := .tmp 3) (k := 3) k1 k2
         obtain ⟨b5', f5, _, d5⟩ := hR'.boxAt (o := .tmp 5) (k := 5) k3 k4
         rw [h3] at f3; rw [h5] at f5
         cases f3; cases f5
         rw [hC1]; exact ⟨d3 0 _ rfl, d5 2 _ rfl, d5 3 _ rfl⟩
       · exact execSlice1 rfl Try.underlying94 (by kernel_rfl) (gT.ev2 (o := .tmp 26) rfl) hz2
       skip
       refine ⟨⟨⟨rfl, rfl⟩, trivial⟩, Nat.le_of_ble_eq_true rfl, ?_⟩
       skip
       refine ⟨⟨rfl, rfl, rfl, rfl⟩, ?_⟩
       repeat' ((try conv => whnf); first|refine aq bd ?_|fail)
       refine ⟨⟨rfl, rfl, rfl, rfl⟩, rfl, ?_, rfl, ?_, rfl, ?_⟩
       · rw [hLe]; rfl
       · rw [hLe]; rfl
       exact ⟨rfl, Le.of (by (repeat' (first|exact trivial|refine aq ?_ ?_|exact oq|fail))) (by (repeat' (first|exact trivial|refine aq ?_ ?_|refine Exists.intro _ (aq rfl ?_)|exact oq|fail))) rfl rfl rfl⟩
   · intro s' hle
     refine Wp.le hle ?_
     have hLi : 2 * i + 1 < (nbL 0 x.converts).length := by omega
     have hLe : (nbL 0 x.converts)[2 * i + 1] = (x.converts[i].b, [.int (2 * (i : Int) + 1), .int x.converts[i].a]) := by
       have := (nbL_at 0 x.converts i hi2).2
       rw [List.getElem?_eq_getElem hLi] at this
       simpa using this
     have hgl : (grw ((nbL 0 x.converts).take (2 * i + 1)) (nbL 0 x.converts)[2 * i + 1].1).length ≤ 2000 := by have := grw_len ((nbL 0 x.converts).take (2 * i + 1)) (nbL 0 x.converts)[2 * i + 1].1; rw [List.length_take] at this; omega
     have hg : grw ((nbL 0 x.converts).take (2 * i + 1 + 1)) (nbL 0 x.converts)[2 * i + 1].1 = grw ((nbL 0 x.converts).take (2 * i + 1)) (nbL 0 x.converts)[2 * i + 1].1 ++ [[.int (2 * (i : Int) + 1), .int x.converts[i].a]] := by
       rw [take_at hLi, grw_snoc, if_pos rfl, hLe]
     refine Wp.ofHeld rfl fun a w hR => ?_
     obtain ⟨b3, e3, l3, c3⟩ := hR.boxAt (o := .tmp 3) (k := 3) rfl rfl
     obtain ⟨b5, e5, l5, c5⟩ := hR.boxAt (o := .tmp 5) (k := 5) rfl rfl
     have hm := hR.mapLt hG (i := 2 * i + 1) rfl hLi
     obtain ⟨C1, hC1⟩ : ∃ C1 : World → Prop, C1 = fun w => w.cell? ⟨b3, 0, none⟩ = some (.map (some mb)) ∧ w.cell? ⟨b5, 2, none⟩ = some (.int .i64 x.converts[i].a) ∧ w.cell? ⟨b5, 3, none⟩ = some (.int .i64 x.converts[i].b) := ⟨_, rfl⟩
     have hC : C1 w := by rw [hC1]; exact ⟨c3 0 _ rfl, c5 2 _ rfl, c5 3 _ rfl⟩
     refine ⟨SS C1 (fun w' => w'.heap[mb]? = w.heap[mb]?) 13 15, ?_⟩
     refine held_takeA (i := 0) (d := 29) (v := .map (some mb)) rfl rfl rfl (by kernel_rfl) rfl hC (fun _ => rfl) (fun w h => execLoad rfl (by kernel_rfl) e3 (hC1 ▸ h).1) ?_
     have g0 := hR.putV (d := 29) (Nat.le_of_ble_eq_true rfl) (v := .pure (.val (.map (some mb)))) (u := .map (some mb)) (fun _ _ _ => .pure _ _ (.val _)) rfl
     refine held_takeA (i := 1) (d := 30) (v := .pointer (some ⟨b5, 3, none⟩)) rfl rfl rfl (by kernel_rfl) rfl hC (fun _ => rfl) (fun w h => by refine execField (b := b5) rfl (by kernel_rfl) ?_; rw [evNe (show (29 : Nat) ≠ 5 by decide), e5]) ?_
     have g1 := g0.putV (d := 30) (Nat.le_of_ble_eq_true rfl) (v := .pure (.val (.pointer (some ⟨b5, 3, none⟩)))) (u := .pointer (some ⟨b5, 3, none⟩)) (fun _ _ _ => .pure _ _ (.val _)) rfl
     refine held_takeA (i := 2) (d := 31) (v := .int .i64 x.converts[i].b) rfl rfl rfl (by kernel_rfl) rfl hC (fun _ => rfl) (fun w h => execLoad rfl (by kernel_rfl) (g1.ev (o := .tmp 30) rfl) (hC1 ▸ h).2.2) ?_
     have g2 := g1.putV (d := 31) (Nat.le_of_ble_eq_true rfl) (v := .pure (.val (.int .i64 x.converts[i].b))) (u := .int .i64 x.converts[i].b) (fun _ _ _ => .pure _ _ (.val _)) rfl
     refine held_takeA (i := 3) (d := 32) (v := .map (some mb)) rfl rfl rfl (by kernel_rfl) rfl hC (fun _ => rfl) (fun w h => by refine execLoad rfl (by kernel_rfl) ?_ (hC1 ▸ h).1; rw [evNe (show (31 : Nat) ≠ 3 by decide), evNe (show (30 : Nat) ≠ 3 by decide), evNe (show (29 : Nat) ≠ 3 by decide), e3]) ?_
     have g3 := g2.putV (d := 32) (Nat.le_of_ble_eq_true rfl) (v := .pure (.val (.map (some mb)))) (u := .map (some mb)) (fun _ _ _ => .pure _ _ (.val _)) rfl
     refine held_takeA (i := 4) (d := 33) (v := .pointer (some ⟨b5, 3, none⟩)) rfl rfl rfl (by kernel_rfl) rfl hC (fun _ => rfl) (fun w h => by refine execField (b := b5) rfl (by kernel_rfl) ?_; rw [evNe (show (32 : Nat) ≠ 5 by decide), evNe (show (31 : Nat) ≠ 5 by decide), evNe (show (30 : Nat) ≠ 5 by decide), evNe (show (29 : Nat) ≠ 5 by decide), e5]) ?_
     have g4 := g3.putV (d := 33) (Nat.le_of_ble_eq_true rfl) (v := .pure (.val (.pointer (some ⟨b5, 3, none⟩)))) (u := .pointer (some ⟨b5, 3, none⟩)) (fun _ _ _ => .pure _ _ (.val _)) rfl
     refine held_takeA (i := 5) (d := 34) (v := .int .i64 x.converts[i].b) rfl rfl rfl (by kernel_rfl) rfl hC (fun _ => rfl) (fun w h => execLoad rfl (by kernel_rfl) (g4.ev (o := .tmp 33) rfl) (hC1 ▸ h).2.2) ?_
     have g5 := g4.putV (d := 34) (Nat.le_of_ble_eq_true rfl) (v := .pure (.val (.int .i64 x.converts[i].b))) (u := .int .i64 x.converts[i].b) (fun _ _ _ => .pure _ _ (.val _)) rfl
     refine held_takeA (i := 7) (d := 36) (v := .int .i64 i) rfl rfl rfl (by kernel_rfl) rfl hC (fun _ => rfl) (fun w h => execMove rfl (g5.ev (o := .tmp 4) rfl)) ?_
     have g6 := g5.putV (d := 36) (Nat.le_of_ble_eq_true rfl) (v := .pure (.val (.int .i64 i))) (u := .int .i64 i) (fun _ _ _ => .pure _ _ (.val _)) rfl
     refine held_takeA (i := 8) (d := 37) (v := .int .i64 (2 * (i : Int))) rfl rfl rfl (by kernel_rfl) rfl hC (fun _ => rfl) (fun w h => execMul rfl rfl (g6.ev (o := .tmp 36) rfl) (by omega) (by omega)) ?_
     have g7 := g6.putV (d := 37) (Nat.le_of_ble_eq_true rfl) (v := .pure (.val (.int .i64 (2 * (i : Int))))) (u := .int .i64 (2 * (i : Int))) (fun _ _ _ => .pure _ _ (.val _)) rfl
     refine held_takeA (i := 9) (d := 38) (v := .int .i64 (2 * (i : Int) + 1)) rfl rfl rfl (by kernel_rfl) rfl hC (fun _ => rfl) (fun w h => execAdd rfl (g7.ev (o := .tmp 37) rfl) rfl (by omega) (by omega)) ?_
     have g8 := g7.putV (d := 38) (Nat.le_of_ble_eq_true rfl) (v := .pure (.val (.int .i64 (2 * (i : Int) + 1)))) (u := .int .i64 (2 * (i : Int) + 1)) (fun _ _ _ => .pure _ _ (.val _)) rfl
     refine held_takeA (i := 10) (d := 39) (v := .pointer (some ⟨b5, 2, none⟩)) rfl rfl rfl (by kernel_rfl) rfl hC (fun _ => rfl) (fun w h => by refine execField (b := b5) rfl (by kernel_rfl) ?_; rw [evNe (show (38 : Nat) ≠ 5 by decide), evNe (show (37 : Nat) ≠ 5 by decide), evNe (show (36 : Nat) ≠ 5 by decide), evNe (show (34 : Nat) ≠ 5 by decide), evNe (show (33 : Nat) ≠ 5 by decide), evNe (show (32 : Nat) ≠ 5 by decide), evNe (show (31 : Nat) ≠ 5 by decide), evNe (show (30 : Nat) ≠ 5 by decide), evNe (show (29 : Nat) ≠ 5 by decide), e5]) ?_
     have g9 := g8.putV (d := 39) (Nat.le_of_ble_eq_true rfl) (v := .pure (.val (.pointer (some ⟨b5, 2, none⟩)))) (u := .pointer (some ⟨b5, 2, none⟩)) (fun _ _ _ => .pure _ _ (.val _)) rfl
     refine held_takeA (i := 11) (d := 40) (v := .int .i64 x.converts[i].a) rfl rfl rfl (by kernel_rfl) rfl hC (fun _ => rfl) (fun w h => execLoad rfl (by kernel_rfl) (g9.ev (o := .tmp 39) rfl) (hC1 ▸ h).2.1) ?_
     have g10 := g9.putV (d := 40) (Nat.le_of_ble_eq_true rfl) (v := .pure (.val (.int .i64 x.converts[i].a))) (u := .int .i64 x.converts[i].a) (fun _ _ _ => .pure _ _ (.val _)) rfl
     refine held_takeA (i := 12) (d := 41) (v := .agg #[.int .i64 (2 * (i : Int) + 1), .int .i64 x.converts[i].a]) rfl rfl rfl (by kernel_rfl) rfl hC (fun _ => rfl) (fun w h => execBuild2 rfl (g10.ev (o := .tmp 38) rfl) (g10.ev (o := .tmp 40) rfl) rfl) ?_
     have g11 := g10.putV (d := 41) (Nat.le_of_ble_eq_true rfl) (v := .pure (.agg [.int (2 * (i : Int) + 1), .int x.converts[i].a])) (u := .agg #[.int .i64 (2 * (i : Int) + 1), .int .i64 x.converts[i].a]) (fun _ _ _ => .pure _ _ (pr_agg2 _ _)) rfl
     by_cases hmem : (nbL 0 x.converts)[2 * i + 1].1 ∈ gks ((nbL 0 x.converts).take (2 * i + 1))
     · obtain ⟨v, r1, gT⟩ := g11.lookT hG (i := 2 * i + 1) (mb := mb) rfl hLi Try.underlying93 hok hmem (d := 35) (k := 401) (Nat.le_of_ble_eq_true rfl) (by show 401 ∉ [5, 3]; decide) (by simp)
       refine held_takeB (i := 6) (d := 35) (v := v) rfl rfl rfl (by kernel_rfl) rfl hC rfl (fun _ => rfl) (fun w' h => execLookup rfl (g11.ev (o := .tmp 32) rfl) (g11.ev (o := .tmp 34) rfl) (by have := r1 w' h; rw [hLe] at this; exact this)) ?_
       refine held_lastT (more := more8 false _ _) (os := []) (mb := mb) (k := 43) (p := 13) (d1 := 42) (d2 := 43) (x3 := 3) (x5 := 5) (BX := fun s' => s'.get 3 = .loc 3 0 0 ∧ s'.blk 3 = some (.box [.pure (.val (.map (some mb)))]) ∧ s'.get 5 = .loc 5 0 0 ∧ s'.blk 5 = some (.box (pures (encCv x.converts[i])))) more8_ok FOK.wide rfl hG hval gT rfl rfl rfl ⟨rfl, rfl, rfl⟩ ⟨rfl, rfl, rfl⟩ (by decide) (by kernel_rfl) (by kernel_rfl) (by kernel_rfl) (by kernel_rfl) rfl rfl Try.underlying93 hok hLi (by simp) ?_ ?_ hm hmem ?_
       · rintro s' a' w' ⟨k1, k2, k3, k4⟩ hR' h3 h5
         rw [evNe (show (35 : Nat) ≠ 3 by decide), evNe (show (41 : Nat) ≠ 3 by decide), evNe (show (40 : Nat) ≠ 3 by decide), evNe (show (39 : Nat) ≠ 3 by decide), evNe (show (38 : Nat) ≠ 3 by decide), evNe (show (37 : Nat) ≠ 3 by decide), evNe (show (36 : Nat) ≠ 3 by decide), evNe (show (34 : Nat) ≠ 3 by decide), evNe (show (33 : Nat) ≠ 3 by decide), evNe (show (32 : Nat) ≠ 3 by decide), evNe (show (31 : Nat) ≠ 3 by decide), evNe (show (30 : Nat) ≠ 3 by decide), evNe (show (29 : Nat) ≠ 3 by decide), e3] at h3
         rw [evNe (show (35 : Nat) ≠ 5 by decide), evNe (show (41 : Nat) ≠ 5 by decide), evNe (show (40 : Nat) ≠ 5 by decide), evNe (show (39 : Nat) ≠ 5 by decide), evNe (show (38 : Nat) ≠ 5 by decide), evNe (show (37 : Nat) ≠ 5 by decide), evNe (show (36 : Nat) ≠ 5 by decide), evNe (show (34 : Nat) ≠ 5 by decide), evNe (show (33 : Nat) ≠ 5 by decide), evNe (show (32 : Nat) ≠ 5 by decide), evNe (show (31 : Nat) ≠ 5 by decide), evNe (show (30 : Nat) ≠ 5 by decide), evNe (show (29 : Nat) ≠ 5 by decide), e5] at h5
         obtain ⟨b3', f3, _, d3⟩ := hR'.boxAt (o := .tmp 3) (k := 3) k1 k2
         obtain ⟨b5', f5, _, d5⟩ := hR'.boxAt (o := .tmp 5) (k := 5) k3 k4
         rw [h3] at f3; rw [h5] at f5
         cases f3; cases f5
         rw [hC1]; exact ⟨d3 0 _ rfl, d5 2 _ rfl, d5 3 _ rfl⟩
       · exact execSlice1 rfl Try.underlying94 (by kernel_rfl) (gT.ev2 (o := .tmp 41) rfl) hz2
       skip
       refine ⟨⟨⟨rfl, rfl⟩, trivial⟩, Nat.le_of_ble_eq_true rfl, ?_⟩
       skip
       refine ⟨⟨rfl, rfl, rfl, rfl⟩, ?_⟩
       repeat' ((try conv => whnf); first|refine aq rfl ?_|refine aq bd ?_|fail)
       refine ⟨⟨rfl, rfl, rfl, rfl⟩, rfl, ?_, ?_, ?_, rfl, ?_⟩
       · rw [hLe]; rfl
       · show AV.lsl 43 0 _ = AV.lsl 43 0 _
         rw [hg, List.length_append]
         rfl
       · rw [hg]; rfl
       repeat' ((try conv => whnf); first|refine s4 nm ?_|fail)
       exact ⟨i + 1, Le.of (by (repeat' (first|exact trivial|refine aq ?_ ?_|exact oq|fail))) (by (repeat' (first|exact trivial|refine aq ?_ ?_|refine Exists.intro _ (aq rfl ?_)|exact oq|fail))) rfl rfl rfl, by omega, by omega⟩
     · have r1 := g11.lookN hG (i := 2 * i + 1) (mb := mb) rfl hLi Try.underlying93 hz hok hmem
       have gT := g11.putV (d := 35) (Nat.le_of_ble_eq_true rfl) (v := .pure (.val (.slice none 0 0))) (u := .slice none 0 0) (fun _ _ _ => .pure _ _ (.val _)) rfl
       refine held_takeB (i := 6) (d := 35) (v := .slice none 0 0) rfl rfl rfl (by kernel_rfl) rfl hC rfl (fun _ => rfl) (fun w' h => execLookup rfl (g11.ev (o := .tmp 32) rfl) (g11.ev (o := .tmp 34) rfl) (by have := r1 w' h; rw [hLe] at this; exact this)) ?_
       refine held_lastN (more := more8 false _ _) (os := []) (mb := mb) (k := 43) (p := 13) (d1 := 42) (d2 := 43) (x3 := 3) (x5 := 5) (BX := fun s' => s'.get 3 = .loc 3 0 0 ∧ s'.blk 3 = some (.box [.pure (.val (.map (some mb)))]) ∧ s'.get 5 = .loc 5 0 0 ∧ s'.blk 5 = some (.box (pures (encCv x.converts[i])))) more8_ok FOK.wide rfl hG hval gT rfl rfl rfl ⟨rfl, rfl, rfl⟩ ⟨rfl, rfl, rfl⟩ (by decide) (by kernel_rfl) (by kernel_rfl) (by kernel_rfl) (by kernel_rfl) rfl rfl Try.underlying93 hok hLi (by simp) ?_ ?_ hm hmem ?_
       · rintro s' a' w' ⟨k1, k2, k3, k4⟩ hR' h3 h5
         rw [evNe (show (35 : Nat) ≠ 3 by decide), evNe (show (41 : Nat) ≠ 3 by decide), evNe (show (40 : Nat) ≠ 3 by decide), evNe (show (39 : Nat) ≠ 3 by decide), evNe (show (38 : Nat) ≠ 3 by decide), evNe (show (37 : Nat) ≠ 3 by decide), evNe (show (36 : Nat) ≠ 3 by decide), evNe (show (34 : Nat) ≠ 3 by decide), evNe (show (33 : Nat) ≠ 3 by decide), evNe (show (32 : Nat) ≠ 3 by decide), evNe (show (31 : Nat) ≠ 3 by decide), evNe (show (30 : Nat) ≠ 3 by decide), evNe (show (29 : Nat) ≠ 3 by decide), e3] at h3
         rw [evNe (show (35 : Nat) ≠ 5 by decide), evNe (show (41 : Nat) ≠ 5 by decide), evNe (show (40 : Nat) ≠ 5 by decide), evNe (show (39 : Nat) ≠ 5 by decide), evNe (show (38 : Nat) ≠ 5 by decide), evNe (show (37 : Nat) ≠ 5 by decide), evNe (show (36 : Nat) ≠ 5 by decide), evNe (show (34 : Nat) ≠ 5 by decide), evNe (show (33 : Nat) ≠ 5 by decide), evNe (show (32 : Nat) ≠ 5 by decide), evNe (show (31 : Nat) ≠ 5 by decide), evNe (show (30 : Nat) ≠ 5 by decide), evNe (show (29 : Nat) ≠ 5 by decide), e5] at h5
         obtain ⟨b3', f3, _, d3⟩ := hR'.boxAt (o := .tmp 3) (k := 3) k1 k2
         obtain ⟨b5', f5, _, d5⟩ := hR'.boxAt (o := .tmp 5) (k := 5) k3 k4
         rw [h3] at f3; rw [h5] at f5
         cases f3; cases f5
         rw [hC1]; exact ⟨d3 0 _ rfl, d5 2 _ rfl, d5 3 _ rfl⟩
       · exact execSlice1 rfl Try.underlying94 (by kernel_rfl) (gT.ev2 (o := .tmp 41) rfl) hz2
       skip
       refine ⟨⟨⟨rfl, rfl⟩, trivial⟩, Nat.le_of_ble_eq_true rfl, ?_⟩
       skip
       refine ⟨⟨rfl, rfl, rfl, rfl⟩, ?_⟩
       repeat' ((try conv => whnf); first|refine aq bd ?_|fail)
       refine ⟨⟨rfl, rfl, rfl, rfl⟩, rfl, ?_, rfl, ?_, rfl, ?_⟩
       · rw [hLe]; rfl
       · rw [hLe]; rfl
       repeat' ((try conv => whnf); first|refine s4 nm ?_|fail)
       exact ⟨i + 1, Le.of (by (repeat' (first|exact trivial|refine aq ?_ ?_|exact oq|fail))) (by (repeat' (first|exact trivial|refine aq ?_ ?_|refine Exists.intro _ (aq rfl ?_)|exact oq|fail))) rfl rfl rfl, by omega, by omega⟩
 · refine code_soundG (more := more8 false _ _) more8_ok FOK.wide _ ?_
   repeat' ((try conv => whnf); first|(first|refine k3 ?_ ?_|refine k4 ?_ ?_) <;> intro hb <;> (try rw [lM] at hb) <;> try (exfalso; omega)|fail)
   refine ⟨mb, 3, ?_, rfl, rfl⟩
   show AV.gh (gIx (nbL 0 x.converts).length mb (2 * i)) false = AV.gh (gIx (nbL 0 x.converts).length mb (nbL 0 x.converts).length) false
   rw [hL, show i = x.converts.length by omega]
end Go.Proofs.Ytihbkbioafdhjaa
/- Versions: the neighbours of a schema, one after the other. Conditions: none. -/
namespace Go.Proofs.Ytihbkbioafdhjaa
open Go.Avc
def nbT : Nat → List Cv → List (Int × Int × Int)
 | _, [] => []
 | n, c :: l => (c.a, 2 * (n : Int), c.b) :: (c.b, 2 * (n : Int) + 1, c.a) :: nbT (n + 1) l
def outF (l : List Cv) (k : Int) : List (Int × Int) := ((nbT 0 l).filter fun q => decide (q.1 = k)).map (·.2)
def encP2 (p : Int × Int) : List PV := [.int p.1, .int p.2]
theorem nbL_nbT : ∀ (n : Nat) (l : List Cv), nbL n l = (nbT n l).map fun q => (q.1, encP2 q.2)
 | _, [] => rfl
 | n, c :: l => by simp only [nbL, nbT, List.map_cons, nbL_nbT (n + 1) l]; rfl
theorem grw_nb (l : List Cv) (k : Int) : grw (nbL 0 l) k = (outF l k).map encP2 := by
 unfold grw outF
 rw [nbL_nbT, List.filter_map, List.map_map, List.map_map]
 rfl
theorem outF_len (l : List Cv) (k : Int) : (outF l k).length ≤ 2 * l.length := by
 have := grw_len (nbL 0 l) k
 rw [grw_nb, List.length_map, nbL_len] at this
 exact this
def nbM (l : List Cv) : List (Int × PV) := (gks (nbL 0 l)).map fun k => (k, .sl 2 (grw (nbL 0 l) k))
theorem mget_mapV {α : Type} [DecidableEq α] (ks : List α) (g : α → PV) (a : α) : mget (ks.map fun k => (k, g k)) a = if a ∈ ks then some (g a) else none := by
 induction ks with
 | nil => rfl
 | cons k ks ih =>
   unfold mget at ih ⊢
   by_cases h : k = a
   · subst h; simp
   · simp only [List.map_cons, List.find?_cons, h, decide_false]
     rw [ih]
     simp [Ne.symm h]
theorem nb_get (l : List Cv) (k : Int) : (mget (nbM l) k).getD (.sl 2 []) = .sl 2 ((outF l k).map encP2) := by
 unfold nbM
 rw [mget_mapV]
 split
 · rw [Option.getD_some, grw_nb]
 · rename_i h
   have := grw_none h
   rw [grw_nb] at this
   rw [Option.getD_none, this]
theorem nbM_is (l : List Cv) : (gks (nbL 0 l)).map intK.val = (nbM l).map (fun q => intK.val q.1) ∧ ((gks (nbL 0 l)).map fun k => PV.sl 2 (grw (nbL 0 l) k)) = (nbM l).map (·.2) := by
 unfold nbM
 rw [List.map_map, List.map_map]
 exact ⟨rfl, rfl⟩
attribute [local irreducible] PSub Wp PSpec Le Need Both
theorem neighbours1_spec (l : List Cv) (k : Int) : PSpec Try.prog 44 [.int k, .ptr [nbPV l]] (.fn 45 [.ptr [nbPV l], .ptr [.int k]]) := by
 refine PSpec.of_vc (fun Γ => more8 false Γ.P Γ.fx) (fun Γ => more8_ok) Try.func44 rfl Try.call44 (by simp) ?_
 rintro ⟨P, N, w0, X, β0, fx, y, hy, pk, df⟩ rfl rfl rfl hoff rfl; change y.on = false at hoff
 skip
 exact PSub.refl _
theorem neighbours11_spec (l : List Cv) (k : Int) (hl : l.length ≤ 1000) : ISpec Try.prog 45 [.ptr [nbPV l], .ptr [.int k]] ((outF l k).map encP2) := by
 have hol := outF_len l k
 refine ISpec.of_vc (fun Γ => more8 false Γ.P Γ.fx) (fun Γ => more8_ok) Try.func45 rfl Try.call45 (Nat.le_of_ble_eq_true rfl) rfl ?_
 rintro ⟨P, N, w0, X, β0, fx, y, hy, pk, df⟩ rfl rfl rfl rfl hon hxs
 dsimp only at hon hxs
 skip
 refine ⟨Int, inferInstance, intK, k, nbM l, by kernel_rfl, rfl, nbM_is l, _, nb_get l k, ?_⟩
 skip
 refine Wp.loop (fun i : Nat => ⟨[(0, .pure (.val (.func (.yield y.l) #[] #[]))), (8, .pure (.sl 2 ((outF l k).map encP2))), (9, .int (outF l k).length), (10, .int i), (22, .gh i false)], [], []⟩) (fun i => i ≤ (outF l k).length) (fun i => (outF l k).length - i) 0 (Le.of ?_ ?_ rfl rfl rfl) (by omega) ?_
 · (repeat' (first|exact trivial|refine aq ?_ ?_|exact oq|exact l1 bd|fail))
 · (repeat' (first|exact trivial|fail))
 intro i hi
 by_cases hi2 : i < (outF l k).length
 · refine code_sound (more := more8 false _ _) more8_ok FOK.wide _ ?_
   repeat' ((try conv => whnf); first|(first|refine k3 ?_ ?_|refine k4 ?_ ?_) <;> intro hb <;> (try rw [lM] at hb) <;> try (exfalso; omega)|refine s5 nm nm ?_|fail)
   refine .inl ⟨by kernel_rfl, by kernel_rfl, ?_⟩
   repeat' ((try conv => whnf); first|refine aq rfl ?_|refine aq bd ?_|refine .inr ⟨rfl, rfl, rfl, ?_⟩|refine ⟨_, singles_rfl _, ?_⟩|fail)
   refine ⟨_, _, rfl, rfl, ?_⟩
   repeat' ((try conv => whnf); first|refine aq rfl ?_|refine aq bd ?_|fail)
   refine ⟨_, _, rfl, rfl, ?_⟩
   repeat' ((try conv => whnf); first|refine aq rfl ?_|refine aq bd ?_|fail)
   refine needY (i := i) (row := [.int (outF l k)[i].1, .int (outF l k)[i].2]) hxs (by simp [List.getElem?_eq_getElem hi2, encP2]) ?_ ?_
   · exact ⟨PSub.refl _, PSub.refl _, trivial⟩
   repeat' ((try conv => whnf); first|refine Both.intro ?_ ?_|refine s4 nm ?_|fail)
   · exact ⟨i + 1, Le.of (by (repeat' (first|exact trivial|refine aq ?_ ?_|exact oq|fail))) (by (repeat' (first|exact trivial|fail))) rfl rfl rfl, by omega, by omega⟩
   · exact ⟨i + 1, true, rfl, by simp⟩
 · refine code_sound (more := more8 false _ _) more8_ok FOK.wide _ ?_
   repeat' ((try conv => whnf); first|(first|refine k3 ?_ ?_|refine k4 ?_ ?_) <;> intro hb <;> (try rw [lM] at hb) <;> try (exfalso; omega)|fail)
   exact ⟨i, false, rfl, fun _ => by simp [show i = (outF l k).length by omega]⟩
end Go.Proofs.Ytihbkbioafdhjaa
/- Versions: schemas of persons; types that fit. Conditions: none. -/
namespace Go.Proofs.Ytihbkbioafdhjaa
open Go.Avc
def wholeB (nu : Nat) (l : List Fd) : Bool := l.all (fun f => decide (tyOK nu f.ty)) && (match l with
 | [] => false
 | f :: _ => decide (f.ty.kind = 3))
def wholeAt (s : Src) (a : Int) : Bool := decide (0 ≤ a) && (match s.schemas[a.toNat]? with
 | some c => wholeB s.units.length c.fields
 | none => false)
def fitP (a b : Ty) (sh : Int) : Prop := a.kind = b.kind ∧ ((a.kind = 1 ∨ a.kind = 2) ∧ b.lo = a.lo + sh ∧ b.hi = a.hi + sh ∧ a.unit = b.unit ∨ ¬ (a.kind = 1 ∨ a.kind = 2) ∧ sh = 0 ∧ a.lo = b.lo ∧ a.hi = b.hi ∧ a.names.length = b.names.length)
instance (a b : Ty) (sh : Int) : Decidable (fitP a b sh) := by unfold fitP; infer_instance
structure Ty.small (t : Ty) : Prop where
 l0 : 0 ≤ t.lo
 l1 : t.lo ≤ 1048576
 h0 : 0 ≤ t.hi
 h1 : t.hi ≤ 1048576
theorem tyOK_small {nu : Nat} {t : Ty} (h : tyOK nu t) : t.small ∧ t.lo ≤ t.hi := by
 unfold tyOK at h
 refine ⟨⟨?_, ?_, ?_, ?_⟩, ?_⟩ <;> omega
theorem wholeAt_nat (s : Src) (k : Nat) (hk : k < s.schemas.length) : wholeAt s k = wholeB s.units.length s.schemas[k].fields := by
 unfold wholeAt
 rw [Int.toNat_natCast, List.getElem?_eq_getElem hk]
 simp
theorem wholeAt_no (s : Src) (a : Int) (h : a < 0 ∨ (s.schemas.length : Int) ≤ a) : wholeAt s a = false := by
 unfold wholeAt
 by_cases h0 : 0 ≤ a
 · rw [List.getElem?_eq_none (by omega)]; simp
 · simp [h0]
theorem and_nonneg (n : Nat) (h : n < 9223372036854775808) (y : Int) : 0 ≤ bits .and .i64 (n : Int) y := by
 have hb : (BitVec.ofInt 64 (n : Int) &&& BitVec.ofInt 64 y).toNat ≤ n := by
   rw [BitVec.toNat_and, BitVec.ofInt_natCast, BitVec.toNat_ofNat]
   exact Nat.le_trans Nat.and_le_left (Nat.mod_le _ _)
 have : bits .and .i64 (n : Int) y = IntKind.i64.wrap (((BitVec.ofInt 64 (n : Int) &&& BitVec.ofInt 64 y).toNat : Nat) : Int) := rfl
 rw [this, IntKind.wrap_i64]
 omega
theorem xor_small (a b : Int) (ha : 0 ≤ a) (ha2 : a ≤ 1048576) (hb : 0 ≤ b) (hb2 : b ≤ 1048576) : ∃ n : Nat, bits .xor .i64 a b = (n : Int) ∧ n < 9223372036854775808 := by
 obtain ⟨m, rfl⟩ : ∃ m : Nat, a = m := ⟨a.toNat, by omega⟩
 obtain ⟨k, rfl⟩ : ∃ m : Nat, b = m := ⟨b.toNat, by omega⟩
 exact ⟨m ^^^ k, bits_xor_nat .i64 63 (by decide) wraps_i64 m k (by omega) (by omega), Nat.xor_lt_two_pow (n := 63) (by omega) (by omega)⟩
attribute [local irreducible] PSub Wp PSpec Le Need Both
theorem plus_spec (a b c : Int) (ha : 0 ≤ a) (ha2 : a ≤ 1048576) (hc : 0 ≤ c) (hc2 : c ≤ 1048576) : PSpec Try.prog 54 [.int a, .int b, .int c] (.bool (decide (c = a + b))) := by
 obtain ⟨n, hn, hn2⟩ := xor_small c a hc hc2 ha ha2
 obtain ⟨x2, hx2⟩ : ∃ x2, bits .xor .i64 c (c - a) = x2 := ⟨_, rfl⟩
 obtain ⟨x3, hx3⟩ : ∃ x3, bits .and .i64 (n : Int) x2 = x3 := ⟨_, rfl⟩
 have h1 : 0 ≤ x3 := hx3 ▸ and_nonneg n hn2 x2
 refine PSpec.of_vc (fun Γ => more8 false Γ.P Γ.fx) (fun Γ => more8_ok) Try.func54 rfl Try.call54 (by simp) ?_
 rintro ⟨P, N, w0, X, β0, fx, y, hy, pk, df⟩ rfl rfl rfl hoff rfl; change y.on = false at hoff
 repeat' ((try conv => whnf); first|(first|refine k3 ?_ ?_|refine k4 ?_ ?_) <;> intro hb <;> (try rw [lM] at hb) <;> try (exfalso; omega)|refine s4 nm ?_|fail)
 · refine ⟨_, hn, ?_⟩
   skip
   refine ⟨_, hx2, ?_⟩
   skip
   refine ⟨_, hx3, ?_⟩
   skip
   exact sub_bool ((decide_eq_true (by omega)).trans (decide_eq_true (by omega)).symm)
 · exact sub_bool (decide_eq_false (by omega)).symm
theorem fits_spec (a b : Ty) (sh : Int) (ha : a.small) (hb : b.small) (hs : -9223372036854775808 ≤ sh) (hs2 : sh ≤ 9223372036854775807) : PSpec Try.prog 41 [.agg (encTy a), .agg (encTy b), .int sh] (.bool (decide (fitP a b sh))) := by
 obtain ⟨a1, a2, a3, a4⟩ := ha
 obtain ⟨b1, b2, b3, b4⟩ := hb
 obtain ⟨r1, hr1⟩ : ∃ r, IntKind.i64.wrap (a.lo + sh) = r := ⟨_, rfl⟩
 obtain ⟨r2, hr2⟩ : ∃ r, IntKind.i64.wrap (a.hi + sh) = r := ⟨_, rfl⟩
 have e1 : b.lo = r1 ↔ b.lo = a.lo + sh := by rw [← hr1, IntKind.wrap_i64]; omega
 have e2 : b.hi = r2 ↔ b.hi = a.hi + sh := by rw [← hr2, IntKind.wrap_i64]; omega
 refine PSpec.of_vc (fun Γ => more8 false Γ.P Γ.fx) (fun Γ => more8_ok) Try.func41 rfl Try.call41 (by simp) ?_
 rintro ⟨P, N, w0, X, β0, fx, y, hy, pk, df⟩ rfl rfl rfl hoff rfl; change y.on = false at hoff
 repeat' ((try conv => whnf); first|(first|refine k3 ?_ ?_|refine k4 ?_ ?_) <;> intro hb <;> (try rw [lM] at hb) <;> try (exfalso; omega)|fail)
 · refine ⟨_, hr1, ?_⟩
   repeat' ((try conv => whnf); first|(first|refine k3 ?_ ?_|refine k4 ?_ ?_) <;> intro hb <;> (try rw [lM] at hb) <;> try (exfalso; omega)|refine s4 nm ?_|fail)
   all_goals first
     | exact sub_bool (decide_eq_true (by unfold fitP; omega)).symm
     | exact sub_bool (decide_eq_false (by unfold fitP; omega)).symm
     | exact sub_bool (decide_eq_decide.2 (by unfold fitP; omega))
     | exact sub_bool (decide_eq_decide.2 (by unfold fitP; simp only [List.length_map]; omega))
 · refine ⟨_, hr1, ?_⟩
   repeat' ((try conv => whnf); first|(first|refine k3 ?_ ?_|refine k4 ?_ ?_) <;> intro hb <;> (try rw [lM] at hb) <;> try (exfalso; omega)|refine s4 nm ?_|fail)
   all_goals first
     | exact sub_bool (decide_eq_true (by unfold fitP; omega)).symm
     | exact sub_bool (decide_eq_false (by unfold fitP; omega)).symm
     | exact sub_bool (decide_eq_decide.2 (by unfold fitP; omega))
     | exact sub_bool (decide_eq_decide.2 (by unfold fitP; simp only [List.length_map]; omega))
 all_goals first
   | exact sub_bool (decide_eq_true (by unfold fitP; omega)).symm
   | exact sub_bool (decide_eq_false (by unfold fitP; omega)).symm
   | exact sub_bool (decide_eq_decide.2 (by unfold fitP; omega))
   | exact sub_bool (decide_eq_decide.2 (by unfold fitP; simp only [List.length_map]; omega))
theorem move_spec (a b : Ty) (sh : Int) (ha : a.small) (hb : b.small) : PSpec Try.prog 43 [.agg (encTy a), .agg (encTy b), .int sh] (.bool (decide (fitP a b sh))) := by
 obtain ⟨a1, a2, a3, a4⟩ := ha
 obtain ⟨b1, b2, b3, b4⟩ := hb
 have p1 := plus_spec a.lo sh b.lo a1 a2 b1 b2
 have p2 := plus_spec a.hi sh b.hi a3 a4 b3 b4
 refine PSpec.of_vc (fun Γ => more8 false Γ.P Γ.fx) (fun Γ => more8_ok) Try.func43 rfl Try.call43 (by simp) ?_
 rintro ⟨P, N, w0, X, β0, fx, y, hy, pk, df⟩ rfl rfl rfl hoff rfl; change y.on = false at hoff
 repeat' ((try conv => whnf); first|(first|refine k3 ?_ ?_|refine k4 ?_ ?_) <;> intro hb <;> (try rw [lM] at hb) <;> try (exfalso; omega)|fail)
 · refine .inl ⟨_, p1, ?_⟩
   repeat' ((try conv => whnf); first|(first|refine k3 ?_ ?_|refine k4 ?_ ?_) <;> intro hb <;> (try rw [lM] at hb) <;> try (exfalso; omega)|fail)
   · refine .inl ⟨_, p2, ?_⟩
     skip
     all_goals first
       | exact sub_bool (decide_eq_true (by unfold fitP; omega)).symm
       | exact sub_bool (decide_eq_false (by unfold fitP; omega)).symm
       | exact sub_bool (decide_eq_decide.2 (by unfold fitP; omega))
       | exact sub_bool (decide_eq_decide.2 (by unfold fitP; simp only [List.length_map]; omega))
   all_goals first
     | exact sub_bool (decide_eq_true (by unfold fitP; omega)).symm
     | exact sub_bool (decide_eq_false (by unfold fitP; omega)).symm
     | exact sub_bool (decide_eq_decide.2 (by unfold fitP; omega))
     | exact sub_bool (decide_eq_decide.2 (by unfold fitP; simp only [List.length_map]; omega))
 · all_goals first
     | exact sub_bool (decide_eq_true (by unfold fitP; omega)).symm
     | exact sub_bool (decide_eq_false (by unfold fitP; omega)).symm
     | exact sub_bool (decide_eq_decide.2 (by unfold fitP; omega))
     | exact sub_bool (decide_eq_decide.2 (by unfold fitP; simp only [List.length_map]; omega))
 · refine .inl ⟨_, p1, ?_⟩
   repeat' ((try conv => whnf); first|(first|refine k3 ?_ ?_|refine k4 ?_ ?_) <;> intro hb <;> (try rw [lM] at hb) <;> try (exfalso; omega)|fail)
   · refine .inl ⟨_, p2, ?_⟩
     skip
     all_goals first
       | exact sub_bool (decide_eq_true (by unfold fitP; omega)).symm
       | exact sub_bool (decide_eq_false (by unfold fitP; omega)).symm
       | exact sub_bool (decide_eq_decide.2 (by unfold fitP; omega))
       | exact sub_bool (decide_eq_decide.2 (by unfold fitP; simp only [List.length_map]; omega))
   all_goals first
     | exact sub_bool (decide_eq_true (by unfold fitP; omega)).symm
     | exact sub_bool (decide_eq_false (by unfold fitP; omega)).symm
     | exact sub_bool (decide_eq_decide.2 (by unfold fitP; omega))
     | exact sub_bool (decide_eq_decide.2 (by unfold fitP; simp only [List.length_map]; omega))
 all_goals first
   | exact sub_bool (decide_eq_true (by unfold fitP; omega)).symm
   | exact sub_bool (decide_eq_false (by unfold fitP; omega)).symm
   | exact sub_bool (decide_eq_decide.2 (by unfold fitP; omega))
   | exact sub_bool (decide_eq_decide.2 (by unfold fitP; simp only [List.length_map]; omega))
end Go.Proofs.Ytihbkbioafdhjaa
/- Versions: schemas of persons. Conditions: none. -/
namespace Go.Proofs.Ytihbkbioafdhjaa
open Go.Avc
theorem valOK_lo (s : Src) (k i : Nat) (hk : k < s.schemas.length) (hi : i < s.schemas[k].fields.length) : valOK s k i s.schemas[k].fields[i].ty.lo = decide (tyOK s.units.length s.schemas[k].fields[i].ty) := by
 unfold valOK
 rw [tyAt_some hk hi]
 by_cases h : tyOK s.units.length s.schemas[k].fields[i].ty
 · have := (tyOK_small h).2
   simp [h, this]
 · simp [h]
def wholeT (nu : Nat) (l : List Fd) (i : Nat) : Bool := (l.take i).all fun f => decide (tyOK nu f.ty)
theorem wholeT_next {nu : Nat} {l : List Fd} {i : Nat} (h : i < l.length) : wholeT nu l (i + 1) = (wholeT nu l i && decide (tyOK nu l[i].ty)) := by
 unfold wholeT
 rw [List.take_succ_eq_append_getElem h, List.all_append]
 simp
theorem wholeB_no {nu : Nat} {l : List Fd} {i : Nat} (h : i < l.length) (hn : ¬ tyOK nu l[i].ty) : wholeB nu l = false := by
 unfold wholeB
 rw [List.all_eq_false.2 ⟨l[i], List.getElem_mem h, by simp [hn]⟩, Bool.false_and]
theorem wholeB_end {nu : Nat} {l : List Fd} (h : wholeT nu l l.length = true) : (l = [] ∧ wholeB nu l = false) ∨ ∃ h0 : 0 < l.length, wholeB nu l = decide (l[0].ty.kind = 3) := by
 unfold wholeT at h
 rw [List.take_of_length_le (Nat.le_refl _)] at h
 unfold wholeB
 rw [h]
 cases l with
 | nil => exact .inl ⟨rfl, rfl⟩
 | cons f l => exact .inr ⟨by simp, by simp⟩
attribute [local irreducible] PSub Wp PSpec Le Need Both
theorem person_spec (s : Src) (hs : s.sz) (a : Int) : PSpec Try.prog 40 [.agg (encSrc s), .int a] (.bool (wholeAt s a)) := by
 have hls := hs.ls
 by_cases hr : a < 0 ∨ (s.schemas.length : Int) ≤ a
 · rw [wholeAt_no s a hr]
   refine PSpec.of_vc (fun Γ => more8 false Γ.P Γ.fx) (fun Γ => more8_ok) Try.func40 rfl Try.call40 (by simp) ?_
   rintro ⟨P, N, w0, X, β0, fx, y, hy, pk, df⟩ rfl rfl rfl hoff rfl; change y.on = false at hoff
   by_cases h0 : a < 0
   · repeat' ((try conv => whnf); first|(first|refine k3 ?_ ?_|refine k4 ?_ ?_) <;> intro hb <;> (try rw [lM] at hb) <;> try (exfalso; omega)|fail)
     exact PSub.refl _
   · repeat' ((try conv => whnf); first|(first|refine k3 ?_ ?_|refine k4 ?_ ?_) <;> intro hb <;> (try rw [lM] at hb) <;> try (exfalso; omega)|fail)
     exact PSub.refl _
 obtain ⟨k, rfl⟩ : ∃ k : Nat, a = k := ⟨a.toNat, by omega⟩
 have hk : k < s.schemas.length := by omega
 have hsz := hs.ss _ (List.getElem_mem hk)
 have hlf := hsz.f
 rw [wholeAt_nat s k hk]
 have hv : ∀ i (hi : i < s.schemas[k].fields.length), PSpec Try.prog 23 [.agg (encSrc s), .int k, .int i, .int s.schemas[k].fields[i].ty.lo] (.bool (decide (tyOK s.units.length s.schemas[k].fields[i].ty))) := fun i hi => by
   have := value_spec s hs k i s.schemas[k].fields[i].ty.lo
   rw [valOK_lo s k i hk hi] at this
   exact this
 refine PSpec.of_vc (fun Γ => more8 false Γ.P Γ.fx) (fun Γ => more8_ok) Try.func40 rfl Try.call40 (by simp) ?_
 rintro ⟨P, N, w0, X, β0, fx, y, hy, pk, df⟩ rfl rfl rfl hoff rfl; change y.on = false at hoff
 repeat' ((try conv => whnf); first|(first|refine k3 ?_ ?_|refine k4 ?_ ?_) <;> intro hb <;> (try rw [lM] at hb) <;> try (exfalso; omega)|refine s5 nm nm ?_|fail)
 refine Wp.loop (fun i : Nat => ⟨[(1, .int k), (2, .loc 2 0 0), (5, .pure (.sl 11 (s.schemas[k].fields.map encFd))), (23, .pure (.sl 11 (s.schemas[k].fields.map encFd))), (24, .int s.schemas[k].fields.length), (25, .int i)], [(2, some (.box (pures (encSrc s))))], [2]⟩) (fun i => i ≤ s.schemas[k].fields.length ∧ wholeT s.units.length s.schemas[k].fields i = true) (fun i => s.schemas[k].fields.length - i) 0 (Le.of ?_ ?_ rfl rfl rfl) ⟨by omega, rfl⟩ ?_
 · (repeat' (first|exact trivial|refine aq ?_ ?_|exact oq|exact l1 bd|fail))
 · (repeat' (first|exact trivial|refine aq ?_ ?_|refine Exists.intro _ (aq rfl ?_)|exact oq|fail))
 intro i ⟨hi, ho⟩
 by_cases hi2 : i < s.schemas[k].fields.length
 · have q := hv i hi2
   have hn := wholeT_next (nu := s.units.length) hi2
   rw [ho, Bool.true_and] at hn
   by_cases ht : tyOK s.units.length s.schemas[k].fields[i].ty
   · rw [decide_eq_true ht] at q hn
     refine code_sound (more := more8 false _ _) more8_ok FOK.wide _ ?_
     repeat' ((try conv => whnf); first|(first|refine k3 ?_ ?_|refine k4 ?_ ?_) <;> intro hb <;> (try rw [lM] at hb) <;> try (exfalso; omega)|refine aq rfl ?_|refine s5 nm nm ?_|fail)
     refine .inl ⟨_, q, ?_⟩
     repeat' ((try conv => whnf); first|refine s4 nm ?_|fail)
     exact ⟨i + 1, Le.of (by (repeat' (first|exact trivial|refine aq ?_ ?_|exact oq|fail))) (by (repeat' (first|exact trivial|refine aq ?_ ?_|refine Exists.intro _ (aq rfl ?_)|exact oq|fail))) rfl rfl rfl, ⟨by omega, hn⟩, by omega⟩
   · rw [decide_eq_false ht] at q
     rw [wholeB_no hi2 ht]
     refine code_sound (more := more8 false _ _) more8_ok FOK.wide _ ?_
     repeat' ((try conv => whnf); first|(first|refine k3 ?_ ?_|refine k4 ?_ ?_) <;> intro hb <;> (try rw [lM] at hb) <;> try (exfalso; omega)|refine aq rfl ?_|refine s5 nm nm ?_|fail)
     refine .inl ⟨_, q, ?_⟩
     skip
     exact PSub.refl _
 · have e : i = s.schemas[k].fields.length := by omega
   subst e
   rcases wholeB_end ho with ⟨h0, h1⟩ | ⟨h0, h1⟩
   · rw [h1]
     have hz : s.schemas[k].fields.length = 0 := by rw [h0]; rfl
     refine code_sound (more := more8 false _ _) more8_ok FOK.wide _ ?_
     repeat' ((try conv => whnf); first|(first|refine k3 ?_ ?_|refine k4 ?_ ?_) <;> intro hb <;> (try rw [lM] at hb) <;> try (exfalso; omega)|fail)
     exact PSub.refl _
   · rw [h1]
     refine code_sound (more := more8 false _ _) more8_ok FOK.wide _ ?_
     repeat' ((try conv => whnf); first|(first|refine k3 ?_ ?_|refine k4 ?_ ?_) <;> intro hb <;> (try rw [lM] at hb) <;> try (exfalso; omega)|refine s5 nm nm ?_|fail)
     exact PSub.refl _
theorem whole_spec (s : Src) (l : List Fd) (hl : l.length ≤ 140737488355328) (hn : ∀ x ∈ l, x.ty.names.length ≤ 140737488355328) : PSpec Try.prog 42 [.agg (encSrc s), .sl 11 (l.map encFd)] (.bool (wholeB s.units.length l)) := by
 have hv : ∀ i (hi : i < l.length), PSpec Try.prog 53 [.agg (encSrc s), .agg (encTy l[i].ty)] (.bool (decide (tyOK s.units.length l[i].ty))) := fun i hi => rtype_spec s _ (by have := hn _ (List.getElem_mem hi); omega)
 refine PSpec.of_vc (fun Γ => more8 false Γ.P Γ.fx) (fun Γ => more8_ok) Try.func42 rfl Try.call42 (by simp) ?_
 rintro ⟨P, N, w0, X, β0, fx, y, hy, pk, df⟩ rfl rfl rfl hoff rfl; change y.on = false at hoff
 skip
 refine Wp.loop (fun i : Nat => ⟨[(1, .pure (.sl 11 (l.map encFd))), (2, .loc 2 0 0), (5, .int i)], [(2, some (.box (pures (encSrc s))))], [2]⟩) (fun i => i ≤ l.length ∧ wholeT s.units.length l i = true) (fun i => l.length - i) 0 (Le.of ?_ ?_ rfl rfl rfl) ⟨by omega, rfl⟩ ?_
 · (repeat' (first|exact trivial|refine aq ?_ ?_|exact oq|fail))
 · (repeat' (first|exact trivial|refine aq ?_ ?_|refine Exists.intro _ (aq rfl ?_)|exact oq|fail))
 intro i ⟨hi, ho⟩
 by_cases hi2 : i < l.length
 · have q := hv i hi2
   have hnx := wholeT_next (nu := s.units.length) hi2
   rw [ho, Bool.true_and] at hnx
   by_cases ht : tyOK s.units.length l[i].ty
   · rw [decide_eq_true ht] at q hnx
     refine code_sound (more := more8 false _ _) more8_ok FOK.wide _ ?_
     repeat' ((try conv => whnf); first|(first|refine k3 ?_ ?_|refine k4 ?_ ?_) <;> intro hb <;> (try rw [lM] at hb) <;> try (exfalso; omega)|fail)
     refine Wp.draw (more := more8 true _ _) more8_det more8_ok FOK.wide rfl (by decide +kernel) (by conv => lhs; reduce) ?_
     repeat' ((try conv => whnf); first|refine s5 nm nm ?_|fail)
     refine ⟨_, q, ?_⟩
     repeat' ((try conv => whnf); first|refine s4 nm ?_|fail)
     exact ⟨i + 1, Le.of (by (repeat' (first|exact trivial|refine aq ?_ ?_|exact oq|fail))) (by (repeat' (first|exact trivial|refine aq ?_ ?_|refine Exists.intro _ (aq rfl ?_)|exact oq|fail))) rfl rfl rfl, ⟨by omega, hnx⟩, by omega⟩
   · rw [decide_eq_false ht] at q
     rw [wholeB_no hi2 ht]
     refine code_sound (more := more8 false _ _) more8_ok FOK.wide _ ?_
     repeat' ((try conv => whnf); first|(first|refine k3 ?_ ?_|refine k4 ?_ ?_) <;> intro hb <;> (try rw [lM] at hb) <;> try (exfalso; omega)|fail)
     refine Wp.draw (more := more8 true _ _) more8_det more8_ok FOK.wide rfl (by decide +kernel) (by conv => lhs; reduce) ?_
     repeat' ((try conv => whnf); first|refine s5 nm nm ?_|fail)
     refine ⟨_, q, ?_⟩
     skip
     exact PSub.refl _
 · have e : i = l.length := by omega
   subst e
   rcases wholeB_end ho with ⟨h0, h1⟩ | ⟨h0, h1⟩
   · rw [h1]
     have hz : l.length = 0 := by rw [h0]; rfl
     refine code_sound (more := more8 false _ _) more8_ok FOK.wide _ ?_
     repeat' ((try conv => whnf); first|(first|refine k3 ?_ ?_|refine k4 ?_ ?_) <;> intro hb <;> (try rw [lM] at hb) <;> try (exfalso; omega)|fail)
     exact PSub.refl _
   · rw [h1]
     refine code_sound (more := more8 false _ _) more8_ok FOK.wide _ ?_
     repeat' ((try conv => whnf); first|(first|refine k3 ?_ ?_|refine k4 ?_ ?_) <;> intro hb <;> (try rw [lM] at hb) <;> try (exfalso; omega)|refine s5 nm nm ?_|fail)
     exact PSub.refl _
end Go.Proofs.Ytihbkbioafdhjaa
