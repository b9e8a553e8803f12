/- Versions: the reference's way. Conditions: none. -/
import Derived.Test.YtihbkbioafdhjaaWd
import Derived.Test.YtihbkbioafdhjaaWn
import Derived.Test.YtihbkbioafdhjaaWe
set_option linter.unusedSimpArgs false
set_option linter.unusedVariables false
set_option maxRecDepth 20000
set_option maxHeartbeats 4000000
namespace Go.Proofs.Ytihbkbioafdhjaa
open Go.Avc
theorem nbT_get : ∀ (k : Nat) (l : List Cv) (n : Nat) (h : n / 2 < l.length), (nbT k l)[n]? = some (cvFrom (n % 2 == 1) l[n / 2], 2 * (k : Int) + n, cvTo (n % 2 == 1) l[n / 2])
 | k, [], n, h => by simp at h
 | k, c :: l, 0, h => by simp [nbT, cvFrom, cvTo]
 | k, c :: l, 1, h => by simp [nbT, cvFrom, cvTo]
 | k, c :: l, n + 2, h => by
   have h' : n / 2 < l.length := by simp at h; omega
   have ih := nbT_get (k + 1) l n h'
   have e1 : (n + 2) / 2 = n / 2 + 1 := by omega
   have e2 : (n + 2) % 2 = n % 2 := by omega
   simp only [nbT, List.getElem?_cons_succ, ih, e1, e2, List.getElem_cons_succ]
   congr 2
   simp
   omega
theorem nbT_len : ∀ (k : Nat) (l : List Cv), (nbT k l).length = 2 * l.length
 | _, [] => rfl
 | k, c :: l => by simp only [nbT, List.length_cons, nbT_len (k + 1) l]; omega
def exN (l : List Cv) (q : List Int × Int) (n : Nat) : List (List Int × Int) := (((nbT 0 l).take n).filter fun t => decide (t.1 = q.2)).map fun t => (q.1 ++ [t.2.1], t.2.2)
def exA (l : List Cv) (q : List Int × Int) : List (List Int × Int) := (outF l q.2).map fun p => (q.1 ++ [p.1], p.2)
theorem exN_zero (l : List Cv) (q : List Int × Int) : exN l q 0 = [] := rfl
theorem exN_all (l : List Cv) (q : List Int × Int) : exN l q (2 * l.length) = exA l q := by
 unfold exN exA outF
 rw [List.take_of_length_le (by rw [nbT_len]; exact Nat.le_refl _), List.map_map]
 rfl
theorem exN_next {l : List Cv} {q : List Int × Int} {n : Nat} (h : n / 2 < l.length) : exN l q (n + 1) = if cvFrom (n % 2 == 1) l[n / 2] = q.2 then exN l q n ++ [(q.1 ++ [(n : Int)], cvTo (n % 2 == 1) l[n / 2])] else exN l q n := by
 have hg := nbT_get 0 l n h
 unfold exN
 rw [List.take_add_one, hg]
 simp only [Option.toList, List.filter_append]
 by_cases e : cvFrom (n % 2 == 1) l[n / 2] = q.2 <;> simp [e]
theorem exN_len (l : List Cv) (q : List Int × Int) (n : Nat) : (exN l q n).length ≤ n := by
 unfold exN
 rw [List.length_map]
 refine Nat.le_trans (List.length_filter_le _ _) ?_
 rw [List.length_take]; omega
def nxW (l : List Cv) (W : List (List Int × Int)) (i : Nat) : List (List Int × Int) := (W.take i).flatMap (exA l)
theorem nxW_next {l : List Cv} {W : List (List Int × Int)} {i : Nat} (h : i < W.length) : nxW l W (i + 1) = nxW l W i ++ exA l W[i] := by
 unfold nxW
 rw [List.take_succ_eq_append_getElem h, List.flatMap_append]
 simp
theorem exA_len (l : List Cv) (hl : l.length ≤ 4) (q : List Int × Int) : (exA l q).length ≤ 8 := by
 unfold exA
 rw [List.length_map]
 have := outF_len l q.2
 omega
theorem nxW_len (l : List Cv) (hl : l.length ≤ 4) (W : List (List Int × Int)) : ∀ i, (nxW l W i).length ≤ i * 8
 | 0 => by simp [nxW]
 | i + 1 => by
   by_cases h : i < W.length
   · rw [nxW_next h, List.length_append]
     have := nxW_len l hl W i
     have := exA_len l hl W[i]
     omega
   · have e : nxW l W (i + 1) = nxW l W i := by unfold nxW; rw [List.take_of_length_le (by omega), List.take_of_length_le (by omega)]
     rw [e]
     have := nxW_len l hl W i
     omega
theorem lev_next (l : List Cv) (a : Int) (n : Nat) : lev l a (n + 1) = nxW l (lev l a n) (lev l a n).length := by
 unfold nxW
 rw [List.take_length]
 rfl
theorem lev_len (l : List Cv) (hl : l.length ≤ 4) (a : Int) : ∀ n, (lev l a n).length ≤ 8 ^ n
 | 0 => by simp [lev]
 | n + 1 => by
   rw [lev_next]
   have := nxW_len l hl (lev l a n) (lev l a n).length
   have := lev_len l hl a n
   rw [Nat.pow_succ]
   omega
theorem levB_at {l : List Cv} {a b : Int} {n j : Nat} (h : j < (lev l a n).length) (hb : (lev l a n)[j].2 = b) (ho : ∀ j' (h' : j' < (lev l a n).length), j' < j → (lev l a n)[j'].2 ≠ b) : levB l a b n = some (lev l a n)[j].1 := by
 unfold levB
 have : (lev l a n).find? (fun q => decide (q.2 = b)) = some (lev l a n)[j] := by
   rw [List.find?_eq_some_iff_getElem]
   exact ⟨by simpa using hb, j, h, rfl, fun j' hj' => by simpa using ho j' (by omega) hj'⟩
 rw [this]
 rfl
theorem levB_no {l : List Cv} {a b : Int} {n : Nat} (ho : ∀ j (h : j < (lev l a n).length), (lev l a n)[j].2 ≠ b) : levB l a b n = none := by
 unfold levB
 rw [Option.map_eq_none_iff, List.find?_eq_none]
 intro q hq
 obtain ⟨j, hj, rfl⟩ := List.getElem_of_mem hq
 simpa using ho j hj
theorem refW_at {l : List Cv} {a b : Int} {n N : Nat} {w : List Int} (ho : ∀ m, m < n → levB l a b m = none) (hn : n < N) (h : levB l a b n = some w) : refW l a b N = some w := by
 unfold refW
 obtain ⟨d, rfl⟩ : ∃ d, N = n + 1 + d := ⟨N - n - 1, by omega⟩
 have e1 : (List.range n).findSome? (levB l a b) = none := List.findSome?_eq_none_iff.2 fun m hm => ho m (List.mem_range.1 hm)
 have e2 : (List.range (n + 1)).findSome? (levB l a b) = some w := by
   rw [List.range_succ, List.findSome?_append, e1]
   simp [h]
 rw [List.range_add, List.findSome?_append, e2]
 rfl
theorem refW_end {l : List Cv} {a b : Int} {N : Nat} (ho : ∀ m, m < N → levB l a b m = none) : refW l a b N = none := List.findSome?_eq_none_iff.2 fun m hm => ho m (List.mem_range.1 hm)
def encWs (W : List (List Int × Int)) : List (List PV) := W.map fun q => [encIs q.1]
def encAs (W : List (List Int × Int)) : List (List PV) := W.map fun q => [PV.int q.2]
attribute [local irreducible] PSub Wp PSpec Le Need Both
theorem rWay_spec (s : Src) (hs : s.sz) (hw : s.few) (a b : Int) : PSpec Try.prog 19 [.agg (encSrc s), .int a, .int b] (encWy (wayR s a b)) := by
 have hlc := hw.nc
 have hls := hw.ns
 have lC : (s.converts.map encCv).length = s.converts.length := List.length_map ..
 have lS : (s.schemas.map encSc).length = s.schemas.length := List.length_map ..
 have qc := rcheck_spec s hs
 by_cases hal : allTwo s = true
 case neg =>
   rw [show wayR s a b = ([], false, 150) from if_neg hal]
   rw [show chkE s = 150 from if_neg hal] at qc
   refine PSpec.of_vc (fun Γ => more8 false Γ.P Γ.fx) (fun Γ => more8_ok) Try.func19 rfl Try.call19 (by simp) ?_
   rintro ⟨P, N, w0, X, β0, fx, y, hy, pk, df⟩ rfl rfl rfl hoff rfl; change y.on = false at hoff
   skip
   refine .inl ⟨_, qc, ?_⟩
   skip
   exact PSub.tup ⟨PSub.nil 1, PSub.refl _, PSub.refl _, trivial⟩
 rw [show chkE s = 0 from if_pos hal] at qc
 have hR : wayR s a b = if okA s a ∧ okA s b then wayO (refW s.converts a b s.schemas.length) else ([], false, 1) := if_pos hal
 rw [hR]
 by_cases hok : okA s a ∧ okA s b
 case neg =>
   rw [if_neg hok]
   unfold okA at hok
   by_cases h1 : a < 0
   · refine PSpec.of_vc (fun Γ => more8 false Γ.P Γ.fx) (fun Γ => more8_ok) Try.func19 rfl Try.call19 (by simp) ?_
     rintro ⟨P, N, w0, X, β0, fx, y, hy, pk, df⟩ rfl rfl rfl hoff rfl; change y.on = false at hoff
     skip
     refine .inl ⟨_, qc, ?_⟩
     repeat' ((try conv => whnf); first|(first|refine k3 ?_ ?_|refine k4 ?_ ?_) <;> intro hb <;> (try rw [lM] at hb) <;> try (exfalso; omega)|fail)
     exact PSub.tup ⟨PSub.nil 1, PSub.refl _, PSub.refl _, trivial⟩
   by_cases h3 : b < 0
   · refine PSpec.of_vc (fun Γ => more8 false Γ.P Γ.fx) (fun Γ => more8_ok) Try.func19 rfl Try.call19 (by simp) ?_
     rintro ⟨P, N, w0, X, β0, fx, y, hy, pk, df⟩ rfl rfl rfl hoff rfl; change y.on = false at hoff
     skip
     refine .inl ⟨_, qc, ?_⟩
     repeat' ((try conv => whnf); first|(first|refine k3 ?_ ?_|refine k4 ?_ ?_) <;> intro hb <;> (try rw [lM] at hb) <;> try (exfalso; omega)|fail)
     exact PSub.tup ⟨PSub.nil 1, PSub.refl _, PSub.refl _, trivial⟩
   by_cases h2 : (s.schemas.length : Int) ≤ a
   · refine PSpec.of_vc (fun Γ => more8 false Γ.P Γ.fx) (fun Γ => more8_ok) Try.func19 rfl Try.call19 (by simp) ?_
     rintro ⟨P, N, w0, X, β0, fx, y, hy, pk, df⟩ rfl rfl rfl hoff rfl; change y.on = false at hoff
     skip
     refine .inl ⟨_, qc, ?_⟩
     repeat' ((try conv => whnf); first|(first|refine k3 ?_ ?_|refine k4 ?_ ?_) <;> intro hb <;> (try rw [lM] at hb) <;> try (exfalso; omega)|fail)
     exact PSub.tup ⟨PSub.nil 1, PSub.refl _, PSub.refl _, trivial⟩
   have h4 : (s.schemas.length : Int) ≤ b := by omega
   refine PSpec.of_vc (fun Γ => more8 false Γ.P Γ.fx) (fun Γ => more8_ok) Try.func19 rfl Try.call19 (by simp) ?_
   rintro ⟨P, N, w0, X, β0, fx, y, hy, pk, df⟩ rfl rfl rfl hoff rfl; change y.on = false at hoff
   skip
   refine .inl ⟨_, qc, ?_⟩
   repeat' ((try conv => whnf); first|(first|refine k3 ?_ ?_|refine k4 ?_ ?_) <;> intro hb <;> (try rw [lM] at hb) <;> try (exfalso; omega)|fail)
   exact PSub.tup ⟨PSub.nil 1, PSub.refl _, PSub.refl _, trivial⟩
 rw [if_pos hok]
 obtain ⟨⟨a1, a2⟩, b1, b2⟩ := hok
 refine PSpec.of_vc (fun Γ => more8 false Γ.P Γ.fx) (fun Γ => more8_ok) Try.func19 rfl Try.call19 (by simp) ?_
 rintro ⟨P, N, w0, X, β0, fx, y, hy, pk, df⟩ rfl rfl rfl hoff rfl; change y.on = false at hoff
 skip
 refine .inl ⟨_, qc, ?_⟩
 repeat' ((try conv => whnf); first|(first|refine k3 ?_ ?_|refine k4 ?_ ?_) <;> intro hb <;> (try rw [lM] at hb) <;> try (exfalso; omega)|refine aq bd ?_|fail)
 refine Wp.loop (fun n : Nat => ⟨[(2, .int b), (3, .loc 3 0 0), (10, .lsl 310 0 (lev s.converts a n).length), (11, .lsl 311 0 (lev s.converts a n).length), (12, .int n)],
   [(3, some (.box (pures (encSrc s)))), (310, some (.row 1 (encWs (lev s.converts a n)))), (311, some (.row 1 (encAs (lev s.converts a n))))], [3, 310, 311]⟩)
   (fun n => n ≤ s.schemas.length ∧ ∀ m, m < n → levB s.converts a b m = none) (fun n => s.schemas.length - n) 0
   (Le.map [(310, 46), (311, 48)] ?_ ?_ rfl rfl rfl rfl) ⟨Nat.zero_le _, fun m h => by omega⟩ ?_
 · (repeat' (first|exact trivial|refine aq ?_ ?_|exact oq|fail))
 · (repeat' (first|exact trivial|exact rfl|refine aq ?_ ?_|refine Exists.intro _ (aq rfl ?_)|exact oq|fail))
 rintro n ⟨hn, ho⟩
 by_cases hn2 : n < s.schemas.length
 · have hlen := lev_len s.converts hlc a n
   have hpow : 8 ^ n ≤ 8 ^ 4 := Nat.pow_le_pow_right (by omega) (by omega)
   have hpow2 : (8 : Nat) ^ 4 = 4096 := by decide
   have hnx := lev_next s.converts a n
   have hB := @levB_at s.converts a b n
   have hB0 := @levB_no s.converts a b n
   have hWl : ∀ q ∈ lev s.converts a n, q.1.length = n := fun q hq => (lev_mem.1 (show (q.1, q.2) ∈ lev s.converts a n from hq)).2
   obtain ⟨W, hW⟩ : ∃ W, W = lev s.converts a n := ⟨_, rfl⟩
   rw [← hW] at hlen hnx hB hB0 hWl ⊢
   have lW : (encWs W).length = W.length := by simp [encWs]
   have lA : (encAs W).length = W.length := by simp [encAs]
   refine code_sound (more := more8 false _ _) more8_ok FOK.wide _ ?_
   repeat' ((try conv => whnf); first|(first|refine k3 ?_ ?_|refine k4 ?_ ?_) <;> intro hb <;> (try rw [lM] at hb) <;> try (exfalso; omega)|refine aq bd ?_|fail)
   refine Wp.loop (fun j : Nat => ⟨[(2, .int b), (3, .loc 3 0 0), (10, .lsl 310 0 W.length), (11, .lsl 311 0 W.length), (12, .int n), (13, .lsl 56 0 0), (14, .lsl 57 0 0), (15, .int j)],
     [(3, some (.box (pures (encSrc s)))), (310, some (.row 1 (encWs W))), (311, some (.row 1 (encAs W))), (56, some (.row 1 [])), (57, some (.row 1 []))], [3, 310, 311, 56, 57]⟩)
     (fun j => j ≤ W.length ∧ ∀ j' (h : j' < W.length), j' < j → W[j'].2 ≠ b) (fun j => W.length - j) 0 (Le.of ?_ ?_ rfl rfl rfl) ⟨Nat.zero_le _, fun j' _ h => by omega⟩ ?_
   · (repeat' (first|exact trivial|refine aq ?_ ?_|exact oq|fail))
   · (repeat' (first|exact trivial|exact rfl|refine aq ?_ ?_|refine Exists.intro _ (aq rfl ?_)|exact oq|fail))
   rintro j ⟨hj, hjo⟩
   by_cases hj2 : j < W.length
   · have e0 : 0 + ((j : Nat) : Int).toNat = j := by rw [Int.toNat_natCast, Nat.zero_add]
     by_cases hjb : (W[0 + ((j : Nat) : Int).toNat]'(by omega)).2 = b
     · have hjb' := hjb
       simp only [e0] at hjb'
       rw [refW_at ho hn2 (hB hj2 hjb' hjo)]
       refine code_sound (more := more8 false _ _) more8_ok FOK.wide _ ?_
       repeat' ((try conv => whnf); first|(first|refine k3 ?_ ?_|refine k4 ?_ ?_) <;> intro hb <;> (try rw [lM] at hb) <;> try (exfalso; omega)|refine aq bd ?_|refine ⟨_, _, getMapN nm, rfl, ?_⟩|fail)
       simp only [e0]
       exact PSub.refl _
     · have hjb' := hjb
       simp only [e0] at hjb'
       refine code_sound (more := more8 false _ _) more8_ok FOK.wide _ ?_
       repeat' ((try conv => whnf); first|(first|refine k3 ?_ ?_|refine k4 ?_ ?_) <;> intro hb <;> (try rw [lM] at hb) <;> try (exfalso; omega)|refine s4 nm ?_|refine aq bd ?_|refine ⟨_, _, getMapN nm, rfl, ?_⟩|fail)
       refine ⟨j + 1, Le.of (by (repeat' (first|exact trivial|refine aq ?_ ?_|exact oq|fail))) (by (repeat' (first|exact trivial|exact rfl|refine aq ?_ ?_|refine Exists.intro _ (aq rfl ?_)|exact oq|fail))) rfl rfl rfl, ⟨by omega, fun j' h' hj' => ?_⟩, by omega⟩
       rcases Nat.lt_succ_iff_lt_or_eq.1 hj' with hj' | rfl
       · exact hjo j' h' hj'
       · exact hjb'
   · have e : j = W.length := by omega
     subst e
     have hno := hB0 fun j h => hjo j h h
     refine code_sound (more := more8 false _ _) more8_ok FOK.wide _ ?_
     repeat' ((try conv => whnf); first|(first|refine k3 ?_ ?_|refine k4 ?_ ?_) <;> intro hb <;> (try rw [lM] at hb) <;> try (exfalso; omega)|fail)
     refine Wp.loop (fun i : Nat => ⟨[(2, .int b), (3, .loc 3 0 0), (10, .lsl 310 0 W.length), (11, .lsl 311 0 W.length), (12, .int n), (13, .lsl 312 0 (nxW s.converts W i).length), (14, .lsl 313 0 (nxW s.converts W i).length), (16, .int i)],
       [(3, some (.box (pures (encSrc s)))), (310, some (.row 1 (encWs W))), (311, some (.row 1 (encAs W))), (312, some (.row 1 (encWs (nxW s.converts W i)))), (313, some (.row 1 (encAs (nxW s.converts W i))))], [3, 310, 311, 312, 313]⟩)
       (fun i => i ≤ W.length) (fun i => W.length - i) 0 (Le.map [(312, 56), (313, 57)] ?_ ?_ rfl rfl rfl rfl) (Nat.zero_le _) ?_
     · (repeat' (first|exact trivial|refine aq ?_ ?_|exact oq|fail))
     · (repeat' (first|exact trivial|exact rfl|refine aq ?_ ?_|refine Exists.intro _ (aq rfl ?_)|exact oq|fail))
     rintro i hi
     have hnl := nxW_len s.converts hlc W i
     by_cases hi2 : i < W.length
     · have hxn := nxW_next (l := s.converts) hi2
       have e1 : 0 + ((i : Nat) : Int).toNat = i := by rw [Int.toNat_natCast, Nat.zero_add]
       obtain ⟨NX, hNX⟩ : ∃ NX, NX = nxW s.converts W i := ⟨_, rfl⟩
       rw [← hNX] at hnl hxn ⊢
       refine code_sound (more := more8 false _ _) more8_ok FOK.wide _ ?_
       repeat' ((try conv => whnf); first|(first|refine k3 ?_ ?_|refine k4 ?_ ?_) <;> intro hb <;> (try rw [lM] at hb) <;> try (exfalso; omega)|fail)
       refine Wp.loop (fun m : Nat => ⟨[(2, .int b), (3, .loc 3 0 0), (10, .lsl 310 0 W.length), (11, .lsl 311 0 W.length), (12, .int n), (13, .lsl 312 0 (NX ++ exN s.converts W[i] m).length), (14, .lsl 313 0 (NX ++ exN s.converts W[i] m).length), (16, .int i), (17, .int m)],
         [(3, some (.box (pures (encSrc s)))), (310, some (.row 1 (encWs W))), (311, some (.row 1 (encAs W))), (312, some (.row 1 (encWs (NX ++ exN s.converts W[i] m)))), (313, some (.row 1 (encAs (NX ++ exN s.converts W[i] m))))], [3, 310, 311, 312, 313]⟩)
         (fun m => m ≤ 2 * s.converts.length) (fun m => 2 * s.converts.length - m) 0 (Le.of ?_ ?_ rfl rfl rfl) (Nat.zero_le _) ?_
       · rw [exN_zero, List.append_nil]
         (repeat' (first|exact trivial|refine aq ?_ ?_|exact oq|fail))
       · rw [exN_zero, List.append_nil]
         (repeat' (first|exact trivial|exact rfl|refine aq ?_ ?_|refine Exists.intro _ (aq rfl ?_)|exact oq|fail))
       rintro m hm
       have hel := exN_len s.converts W[i] m
       by_cases hm2 : m < 2 * s.converts.length
       · have hm3 : m / 2 < s.converts.length := by omega
         have hen := exN_next (q := W[i]) hm3
         have qe := ends_spec s hs m hm3
         obtain ⟨x1, hx1⟩ : ∃ x, x = cvFrom (m % 2 == 1) s.converts[m / 2] := ⟨_, rfl⟩
         obtain ⟨x2, hx2⟩ : ∃ x, x = cvTo (m % 2 == 1) s.converts[m / 2] := ⟨_, rfl⟩
         rw [← hx1, ← hx2] at qe hen
         have lnx : (encWs (NX ++ exN s.converts W[i] m)).length = NX.length + (exN s.converts W[i] m).length := by simp [encWs]
         have lna : (encAs (NX ++ exN s.converts W[i] m)).length = NX.length + (exN s.converts W[i] m).length := by simp [encAs]
         by_cases hc : x1 = (W[0 + ((i : Nat) : Int).toNat]'(by omega)).2
         · have hc' := hc
           simp only [e1] at hc'
           rw [if_pos hc'] at hen
           have hwl := hWl _ (List.getElem_mem (by omega : 0 + ((i : Nat) : Int).toNat < W.length))
           have hwm : ((W[0 + ((i : Nat) : Int).toNat]'(by omega)).1.map fun x => [PV.int x]).length = n := by rw [List.length_map]; exact hwl
           refine code_sound (more := more8 false _ _) more8_ok FOK.wide _ ?_
           repeat' ((try conv => whnf); first|(first|refine k3 ?_ ?_|refine k4 ?_ ?_) <;> intro hb <;> (try rw [lM] at hb) <;> try (exfalso; omega)|refine s4 nm ?_|fail)
           refine .inl ⟨_, qe, ?_⟩
           repeat' ((try conv => whnf); first|(first|refine k3 ?_ ?_|refine k4 ?_ ?_) <;> intro hb <;> (try rw [lM] at hb) <;> try (exfalso; omega)|refine aq rfl ?_|refine s4 nm ?_|refine aq bd ?_|refine ⟨_, _, getMapN nm, rfl, ?_⟩|fail)
           refine ⟨m + 1, Le.map [(312, 111), (313, 115)] ?_ ?_ rfl rfl rfl rfl, by omega, by omega⟩
           · rw [hen, ← List.append_assoc]
             (repeat' (first|exact trivial|refine aq ?_ ?_|exact oq|exact SubA.lsl ls|fail))
             all_goals first
               | (refine SubA.lsl ?_; focus (simp [encWs, encAs, Nat.add_assoc]; done))
               | (refine rowEq ?_; focus (simp [encWs, encAs, encIs, e1]; done))
           · rw [hen, ← List.append_assoc]
             (repeat' (first|exact trivial|exact rfl|refine aq ?_ ?_|refine Exists.intro _ (aq rfl ?_)|exact oq|fail))
             all_goals first
               | (refine SubA.lsl ?_; focus (simp [encWs, encAs, Nat.add_assoc]; done))
               | (refine rowEq ?_; focus (simp [encWs, encAs, encIs, e1]; done))
               | (refine rowEq ?_; simp [encWs, encAs, encIs, e1]; exact List.take_of_length_le (by simp))
         · have hc' := hc
           simp only [e1] at hc'
           rw [if_neg hc'] at hen
           refine code_sound (more := more8 false _ _) more8_ok FOK.wide _ ?_
           repeat' ((try conv => whnf); first|(first|refine k3 ?_ ?_|refine k4 ?_ ?_) <;> intro hb <;> (try rw [lM] at hb) <;> try (exfalso; omega)|refine s4 nm ?_|fail)
           refine .inl ⟨_, qe, ?_⟩
           repeat' ((try conv => whnf); first|(first|refine k3 ?_ ?_|refine k4 ?_ ?_) <;> intro hb <;> (try rw [lM] at hb) <;> try (exfalso; omega)|refine s4 nm ?_|refine aq bd ?_|refine ⟨_, _, getMapN nm, rfl, ?_⟩|fail)
           refine ⟨m + 1, Le.of ?_ ?_ rfl rfl rfl, by omega, by omega⟩
           · rw [hen]
             (repeat' (first|exact trivial|refine aq ?_ ?_|exact oq|fail))
           · rw [hen]
             (repeat' (first|exact trivial|exact rfl|refine aq ?_ ?_|refine Exists.intro _ (aq rfl ?_)|exact oq|fail))
       · have e : m = 2 * s.converts.length := by omega
         subst e
         rw [exN_all, ← hxn]
         refine code_sound (more := more8 false _ _) more8_ok FOK.wide _ ?_
         repeat' ((try conv => whnf); first|(first|refine k3 ?_ ?_|refine k4 ?_ ?_) <;> intro hb <;> (try rw [lM] at hb) <;> try (exfalso; omega)|refine s4 nm ?_|fail)
         refine ⟨i + 1, Le.of (by (repeat' (first|exact trivial|refine aq ?_ ?_|exact oq|fail))) (by (repeat' (first|exact trivial|exact rfl|refine aq ?_ ?_|refine Exists.intro _ (aq rfl ?_)|exact oq|fail))) rfl rfl rfl, by omega, by omega⟩
     · have e : i = W.length := by omega
       subst e
       rw [← hnx]
       refine code_sound (more := more8 false _ _) more8_ok FOK.wide _ ?_
       repeat' ((try conv => whnf); first|(first|refine k3 ?_ ?_|refine k4 ?_ ?_) <;> intro hb <;> (try rw [lM] at hb) <;> try (exfalso; omega)|refine s4 nm ?_|fail)
       refine ⟨n + 1, Le.map [(310, 312), (311, 313)] ?_ ?_ rfl rfl rfl rfl, ⟨by omega, fun m hm => ?_⟩, by omega⟩
       · (repeat' (first|exact trivial|refine aq ?_ ?_|exact oq|fail))
       · (repeat' (first|exact trivial|exact rfl|refine aq ?_ ?_|refine Exists.intro _ (aq rfl ?_)|exact oq|fail))
       · rcases Nat.lt_succ_iff_lt_or_eq.1 hm with hm | rfl
         · exact ho m hm
         · exact hno
 · have e : n = s.schemas.length := by omega
   subst e
   rw [refW_end ho]
   refine code_sound (more := more8 false _ _) more8_ok FOK.wide _ ?_
   repeat' ((try conv => whnf); first|(first|refine k3 ?_ ?_|refine k4 ?_ ?_) <;> intro hb <;> (try rw [lM] at hb) <;> try (exfalso; omega)|fail)
   exact PSub.tup ⟨PSub.nil 1, PSub.refl _, PSub.refl _, trivial⟩
end Go.Proofs.Ytihbkbioafdhjaa
/- Versions: few. Conditions: none. -/
namespace Go.Proofs.Ytihbkbioafdhjaa
open Go.Avc
def fewP (s : Src) (c : Cl) : Prop := (∀ x ∈ s.schemas, x.fields.length ≤ 16) ∧ (∀ x ∈ s.converts, x.moves.length ≤ 20) ∧ s.schemas.length ≤ 5 ∧ s.converts.length ≤ 4 ∧ c.fields.length ≤ 20 ∧ c.values.length ≤ 20
instance (s : Src) (c : Cl) : Decidable (fewP s c) := by unfold fewP; infer_instance
theorem fewP_few {s : Src} {c : Cl} (h : fewP s c) : s.few := ⟨h.2.2.2.1, h.2.2.1, h.2.1⟩
theorem all_at {α : Type} {l : List α} {p : α → Prop} (h : ∀ j (hj : j < l.length), p l[j]) : ∀ x ∈ l, p x := fun x hx => by
 obtain ⟨j, hj, rfl⟩ := List.getElem_of_mem hx
 exact h j hj
attribute [local irreducible] PSub Wp PSpec Le Need Both
theorem few_spec (s : Src) (hs : s.sz) (c : Cl) (h1 : c.fields.length ≤ 140737488355328) (h2 : c.values.length ≤ 140737488355328) : PSpec Try.prog 10 [.agg (encSrc s), .agg (encCl c)] (.bool (decide (fewP s c))) := by
 have hls := hs.ls
 have hlc := hs.lc
 have lS : (s.schemas.map encSc).length = s.schemas.length := List.length_map ..
 have lC : (s.converts.map encCv).length = s.converts.length := List.length_map ..
 have lF : (c.fields.map fun x => [PV.int x]).length = c.fields.length := List.length_map ..
 have lV : (c.values.map fun x => [PV.int x]).length = c.values.length := List.length_map ..
 refine PSpec.of_vc (fun Γ => more8 false Γ.P Γ.fx) (fun Γ => more8_ok) Try.func10 rfl Try.call10 (by simp) ?_
 rintro ⟨P, N, w0, X, β0, fx, y, hy, pk, df⟩ rfl rfl rfl hoff rfl; change y.on = false at hoff
 skip
 refine Wp.loop (fun i : Nat => ⟨[(2, .loc 2 0 0), (3, .loc 3 0 0), (5, .int i)], [(2, some (.box (pures (encSrc s)))), (3, some (.box (pures (encCl c))))], [2, 3]⟩) (fun i => i ≤ s.schemas.length ∧ ∀ j (h : j < s.schemas.length), j < i → s.schemas[j].fields.length ≤ 16) (fun i => s.schemas.length - i) 0 (Le.of ?_ ?_ rfl rfl rfl) ⟨Nat.zero_le _, fun j _ h => by omega⟩ ?_
 · (repeat' (first|exact trivial|refine aq ?_ ?_|exact oq|fail))
 · (repeat' (first|exact trivial|refine aq ?_ ?_|refine Exists.intro _ (aq rfl ?_)|exact oq|fail))
 rintro i ⟨hi, ho⟩
 by_cases hi2 : i < s.schemas.length
 · have lf : (s.schemas[i].fields.map encFd).length = s.schemas[i].fields.length := List.length_map ..
   have hsz := (hs.ss _ (List.getElem_mem hi2)).f
   by_cases hf : s.schemas[i].fields.length ≤ 16
   · refine code_sound (more := more8 false _ _) more8_ok FOK.wide _ ?_
     repeat' ((try conv => whnf); first|(first|refine k3 ?_ ?_|refine k4 ?_ ?_) <;> intro hb <;> (try rw [lM] at hb) <;> try (exfalso; omega)|refine s4 nm ?_|refine s5 nm nm ?_|fail)
     refine ⟨i + 1, Le.of (by (repeat' (first|exact trivial|refine aq ?_ ?_|exact oq|fail))) (by (repeat' (first|exact trivial|refine aq ?_ ?_|refine Exists.intro _ (aq rfl ?_)|exact oq|fail))) rfl rfl rfl, ⟨by omega, fun j hj hji => ?_⟩, by omega⟩
     rcases Nat.lt_succ_iff_lt_or_eq.1 hji with hji | rfl
     · exact ho j hj hji
     · exact hf
   · rw [decide_eq_false (fun h : fewP s c => hf (h.1 _ (List.getElem_mem hi2)))]
     refine code_sound (more := more8 false _ _) more8_ok FOK.wide _ ?_
     repeat' ((try conv => whnf); first|(first|refine k3 ?_ ?_|refine k4 ?_ ?_) <;> intro hb <;> (try rw [lM] at hb) <;> try (exfalso; omega)|refine s5 nm nm ?_|fail)
     exact PSub.refl _
 · have e : i = s.schemas.length := by omega
   subst e
   have hS := all_at (p := fun x : Sc => x.fields.length ≤ 16) fun j hj => ho j hj hj
   refine code_sound (more := more8 false _ _) more8_ok FOK.wide _ ?_
   repeat' ((try conv => whnf); first|(first|refine k3 ?_ ?_|refine k4 ?_ ?_) <;> intro hb <;> (try rw [lM] at hb) <;> try (exfalso; omega)|fail)
   refine Wp.loop (fun i : Nat => ⟨[(2, .loc 2 0 0), (3, .loc 3 0 0), (6, .int i)], [(2, some (.box (pures (encSrc s)))), (3, some (.box (pures (encCl c))))], [2, 3]⟩) (fun i => i ≤ s.converts.length ∧ ∀ j (h : j < s.converts.length), j < i → s.converts[j].moves.length ≤ 20) (fun i => s.converts.length - i) 0 (Le.of ?_ ?_ rfl rfl rfl) ⟨Nat.zero_le _, fun j _ h => by omega⟩ ?_
   · (repeat' (first|exact trivial|refine aq ?_ ?_|exact oq|fail))
   · (repeat' (first|exact trivial|refine aq ?_ ?_|refine Exists.intro _ (aq rfl ?_)|exact oq|fail))
   rintro i ⟨hi, ho⟩
   by_cases hi2 : i < s.converts.length
   · have lf : (s.converts[i].moves.map encMv).length = s.converts[i].moves.length := List.length_map ..
     have hsz := hs.cc _ (List.getElem_mem hi2)
     by_cases hf : s.converts[i].moves.length ≤ 20
     · refine code_sound (more := more8 false _ _) more8_ok FOK.wide _ ?_
       repeat' ((try conv => whnf); first|(first|refine k3 ?_ ?_|refine k4 ?_ ?_) <;> intro hb <;> (try rw [lM] at hb) <;> try (exfalso; omega)|refine s4 nm ?_|refine s5 nm nm ?_|fail)
       refine ⟨i + 1, Le.of (by (repeat' (first|exact trivial|refine aq ?_ ?_|exact oq|fail))) (by (repeat' (first|exact trivial|refine aq ?_ ?_|refine Exists.intro _ (aq rfl ?_)|exact oq|fail))) rfl rfl rfl, ⟨by omega, fun j hj hji => ?_⟩, by omega⟩
       rcases Nat.lt_succ_iff_lt_or_eq.1 hji with hji | rfl
       · exact ho j hj hji
       · exact hf
     · rw [decide_eq_false (fun h : fewP s c => hf (h.2.1 _ (List.getElem_mem hi2)))]
       refine code_sound (more := more8 false _ _) more8_ok FOK.wide _ ?_
       repeat' ((try conv => whnf); first|(first|refine k3 ?_ ?_|refine k4 ?_ ?_) <;> intro hb <;> (try rw [lM] at hb) <;> try (exfalso; omega)|refine s5 nm nm ?_|fail)
       exact PSub.refl _
   · have e : i = s.converts.length := by omega
     subst e
     have hC := all_at (p := fun x : Cv => x.moves.length ≤ 20) fun j hj => ho j hj hj
     have hiff : fewP s c ↔ s.schemas.length ≤ 5 ∧ s.converts.length ≤ 4 ∧ c.fields.length ≤ 20 ∧ c.values.length ≤ 20 := ⟨fun h => h.2.2, fun h => ⟨hS, hC, h⟩⟩
     by_cases h5 : s.schemas.length ≤ 5
     case neg =>
       rw [decide_eq_false (fun h : fewP s c => h5 h.2.2.1)]
       refine code_sound (more := more8 false _ _) more8_ok FOK.wide _ ?_
       repeat' ((try conv => whnf); first|(first|refine k3 ?_ ?_|refine k4 ?_ ?_) <;> intro hb <;> (try rw [lM] at hb) <;> try (exfalso; omega)|fail)
       exact PSub.refl _
     by_cases h4 : s.converts.length ≤ 4
     case neg =>
       rw [decide_eq_false (fun h : fewP s c => h4 h.2.2.2.1)]
       refine code_sound (more := more8 false _ _) more8_ok FOK.wide _ ?_
       repeat' ((try conv => whnf); first|(first|refine k3 ?_ ?_|refine k4 ?_ ?_) <;> intro hb <;> (try rw [lM] at hb) <;> try (exfalso; omega)|fail)
       exact PSub.refl _
     by_cases h3 : c.fields.length ≤ 20
     case neg =>
       rw [decide_eq_false (fun h : fewP s c => h3 h.2.2.2.2.1)]
       refine code_sound (more := more8 false _ _) more8_ok FOK.wide _ ?_
       repeat' ((try conv => whnf); first|(first|refine k3 ?_ ?_|refine k4 ?_ ?_) <;> intro hb <;> (try rw [lM] at hb) <;> try (exfalso; omega)|fail)
       exact PSub.refl _
     by_cases h2' : c.values.length ≤ 20
     case neg =>
       rw [decide_eq_false (fun h : fewP s c => h2' h.2.2.2.2.2)]
       refine code_sound (more := more8 false _ _) more8_ok FOK.wide _ ?_
       repeat' ((try conv => whnf); first|(first|refine k3 ?_ ?_|refine k4 ?_ ?_) <;> intro hb <;> (try rw [lM] at hb) <;> try (exfalso; omega)|fail)
       exact sub_bool (by simp; omega)
     rw [decide_eq_true (hiff.2 ⟨h5, h4, h3, h2'⟩)]
     refine code_sound (more := more8 false _ _) more8_ok FOK.wide _ ?_
     repeat' ((try conv => whnf); first|(first|refine k3 ?_ ?_|refine k4 ?_ ?_) <;> intro hb <;> (try rw [lM] at hb) <;> try (exfalso; omega)|fail)
     exact sub_bool (by simp; omega)
end Go.Proofs.Ytihbkbioafdhjaa
/- Versions: the chapter's examples. Conditions: none. -/
namespace Go.Proofs.Ytihbkbioafdhjaa
open Go.Avc
def smpF : Fd := ⟨⟨#[115, 101, 108, 102]⟩, ⟨3, 0, 4095, ⟨#[]⟩, -1, []⟩, 0, 0, 0, 0⟩
def smpN (s : Bs) (lo hi : Int) : Fd := ⟨s, ⟨1, lo, hi, ⟨#[]⟩, -1, []⟩, 0, 0, 0, 0⟩
def smp : Src := ⟨[⟨#[120]⟩], [], [⟨⟨#[111, 110, 101]⟩, ⟨#[120]⟩, 0, 1, [smpF, smpN ⟨#[97]⟩ 0 9, smpN ⟨#[98]⟩ 1 4], []⟩, ⟨⟨#[116, 119, 111]⟩, ⟨#[120]⟩, 0, 2, [smpF, smpN ⟨#[100]⟩ 1 4, smpN ⟨#[99]⟩ 5 14], []⟩], [],
 [⟨⟨#[111, 110, 101]⟩, ⟨#[116, 119, 111]⟩, 0, 1, [⟨⟨#[99]⟩, ⟨#[97]⟩, 2, 1, 5⟩, ⟨⟨#[100]⟩, ⟨#[98]⟩, 1, 2, 0⟩]⟩], []⟩
def smpZ : Src := ⟨[], [], [], [], [], []⟩
def smpC : Cl := ⟨0, [0, 1, 2], [77, 3, 4]⟩
def smpX : Cl := ⟨1, [0, 1, 2], [77, 4, 8]⟩
theorem smp_sz : smp.sz := by
 refine ⟨by decide, by decide, by decide, by decide, by decide, by decide, ?_, ?_, ?_, ?_⟩
 · intro c hc
   simp only [smp, List.mem_cons, List.not_mem_nil, or_false] at hc
   rcases hc with rfl | rfl
   · refine ⟨by decide, by decide, ?_, ?_⟩
     · intro x hx
       simp only [List.mem_cons, List.not_mem_nil, or_false] at hx
       rcases hx with rfl | rfl | rfl <;> decide
     · intro x hx; cases hx
   · refine ⟨by decide, by decide, ?_, ?_⟩
     · intro x hx
       simp only [List.mem_cons, List.not_mem_nil, or_false] at hx
       rcases hx with rfl | rfl | rfl <;> decide
     · intro x hx; cases hx
 · intro c hc; cases hc
 · intro c hc
   simp only [smp, List.mem_cons, List.not_mem_nil, or_false] at hc
   subst hc
   decide
 · intro c hc; cases hc
theorem smpZ_sz : smpZ.sz := by
 refine ⟨by decide, by decide, by decide, by decide, by decide, by decide, ?_, ?_, ?_, ?_⟩ <;> (intro c hc; cases hc)
theorem smp_rg : smp.rg := by
 intro c hc
 simp only [smp, List.mem_cons, List.not_mem_nil, or_false] at hc
 subst hc
 refine ⟨fun m hm => ?_⟩
 simp only [List.mem_cons, List.not_mem_nil, or_false] at hm
 rcases hm with rfl | rfl <;> decide
theorem smpZ_rg : smpZ.rg := fun c hc => by cases hc
theorem smp_few : smp.few := ⟨by decide, by decide, fun c hc => by
 simp only [smp, List.mem_cons, List.not_mem_nil, or_false] at hc
 subst hc
 decide⟩
theorem smpZ_few : smpZ.few := ⟨by decide, by decide, fun c hc => by cases hc⟩
theorem e1 : fwdR smp 0 false smpC = (smpX, 0) := by kernel_rfl
theorem e2 : fwdR smp 0 true smpX = (smpC, 0) := by kernel_rfl
theorem e3 : wayR smp 1 0 = ([1], true, 0) := by kernel_rfl
theorem e4 : alR smp [1] smpX = (smpC, 0) := by kernel_rfl
theorem e5 : wayR smp 1 1 = ([], true, 0) := by kernel_rfl
theorem e6 : wayR smpZ 0 0 = ([], false, 1) := by kernel_rfl
theorem e7 : alR smpZ [0] zeroCl = (zeroCl, 1) := by kernel_rfl
theorem e8 : fwdR smp 1 false smpC = (zeroCl, 1) := by kernel_rfl
theorem e9 : fwdR smp 0 false smpX = (zeroCl, 150) := by kernel_rfl
theorem e10 : chkE smp = 0 := by kernel_rfl
theorem e11 : chkE smpZ = 0 := by kernel_rfl
attribute [local irreducible] PSub Wp PSpec Le Need Both
attribute [local irreducible] fwdR wayR alR chkE
theorem sample1_spec (s : Bs) (lo hi : Int) : PSpec Try.prog 37 [PV.str s, .int lo, .int hi] (.agg (encFd (smpN s lo hi))) := by
 refine PSpec.of_vc (fun Γ => more8 false Γ.P Γ.fx) (fun Γ => more8_ok) Try.func37 rfl Try.call37 (by simp) ?_
 rintro ⟨P, N, w0, X, β0, fx, y, hy, pk, df⟩ rfl rfl rfl hoff rfl; change y.on = false at hoff
 repeat' ((try conv => whnf); first|refine aq rfl ?_|fail)
 repeat' (first|exact trivial|exact PSub.nil _|exact PSub.refl _|refine PSub.agg ?_|refine PSub.sl ?_|refine aq ?_ ?_)
theorem sample_spec : PSpec Try.prog 24 [] (.agg (encSrc smp)) := by
 refine PSpec.of_vc (fun Γ => more8 false Γ.P Γ.fx) (fun Γ => more8_ok) Try.func24 rfl Try.call24 (by simp) ?_
 rintro ⟨P, N, w0, X, β0, fx, y, hy, pk, df⟩ rfl rfl rfl hoff rfl; change y.on = false at hoff
 repeat' ((try conv => whnf); first|refine aq rfl ?_|fail)
 refine Wp.draw (more := more8 true _ _) more8_det more8_ok FOK.wide rfl (by decide +kernel) (by conv => lhs; reduce) ?_
 repeat' ((try conv => whnf); first|refine aq bd ?_|fail)
 refine ⟨_, sample1_spec _ _ _, ?_⟩
 repeat' ((try conv => whnf); first|refine aq rfl ?_|fail)
 refine ⟨_, sample1_spec _ _ _, ?_⟩
 repeat' ((try conv => whnf); first|refine aq rfl ?_|refine aq bd ?_|fail)
 refine ⟨_, sample1_spec _ _ _, ?_⟩
 repeat' ((try conv => whnf); first|refine aq rfl ?_|fail)
 refine ⟨_, sample1_spec _ _ _, ?_⟩
 repeat' ((try conv => whnf); first|refine aq rfl ?_|refine aq bd ?_|fail)
 repeat' (first|exact trivial|exact PSub.nil _|exact PSub.refl _|refine PSub.agg ?_|refine PSub.sl ?_|refine aq ?_ ?_)
theorem sane_spec : PSpec Try.prog 9 [] (.bool true) := by
 have p1 := Forward_spec smp smp_sz smp_rg smp_few 0 smpC (by decide)
 have p2 := Back_spec smp smp_sz smp_rg smp_few 0 smpX (by decide)
 have p3 := way_spec smp smp_sz smp_rg smp_few 1 0
 have p4 := along_spec smp smp_sz smp_rg smp_few [1] (by decide) smpX (by decide) (by decide)
 have p5 := way_spec smp smp_sz smp_rg smp_few 1 1
 have p6 := way_spec smpZ smpZ_sz smpZ_rg smpZ_few 0 0
 have p7 := along_spec smpZ smpZ_sz smpZ_rg smpZ_few [0] (by decide) zeroCl (by decide) (by decide)
 have p8 := Forward_spec smp smp_sz smp_rg smp_few 1 smpC (by decide)
 have p9 := Forward_spec smp smp_sz smp_rg smp_few 0 smpX (by decide)
 have c1 := check_spec smpZ smpZ_sz smpZ_rg
 have c2 := check_spec smp smp_sz smp_rg
 have s1 := same_spec smpX smpX (by decide) (by decide)
 have s2 := same_spec smpC smpC (by decide) (by decide)
 have s3 := sameInts_spec [1] [1] (by decide)
 rw [e1] at p1; rw [e2] at p2; rw [e3] at p3; rw [e4] at p4; rw [e5] at p5; rw [e6] at p6; rw [e7] at p7; rw [e8] at p8; rw [e9] at p9; rw [e11] at c1; rw [e10] at c2
 rw [decide_eq_true (show sameP smpX smpX from ⟨rfl, rfl, rfl⟩)] at s1
 rw [decide_eq_true (show sameP smpC smpC from ⟨rfl, rfl, rfl⟩)] at s2
 rw [decide_eq_true rfl] at s3
 have zs : PSub (.agg [.val (.slice none 0 0), .val (.slice none 0 0), .val (.slice none 0 0), .val (.slice none 0 0), .val (.slice none 0 0), .val (.slice none 0 0)]) (.agg (encSrc smpZ)) := PSub.agg ⟨PSub.nil 1, PSub.nil 5, PSub.nil 6, PSub.nil 5, PSub.nil 5, PSub.nil 3, trivial⟩
 have zc : PSub (.agg [.int 0, .val (.slice none 0 0), .val (.slice none 0 0)]) (.agg (encCl zeroCl)) := PSub.agg ⟨PSub.refl _, PSub.nil 1, PSub.nil 1, trivial⟩
 replace p6 := PSpec.args (args := [PV.agg [.val (.slice none 0 0), .val (.slice none 0 0), .val (.slice none 0 0), .val (.slice none 0 0), .val (.slice none 0 0), .val (.slice none 0 0)], .int 0, .int 0]) p6 ⟨zs, PSub.refl _, PSub.refl _, trivial⟩
 replace p7 := PSpec.args (args := [PV.agg [.val (.slice none 0 0), .val (.slice none 0 0), .val (.slice none 0 0), .val (.slice none 0 0), .val (.slice none 0 0), .val (.slice none 0 0)], encIs [0], PV.agg [.int 0, .val (.slice none 0 0), .val (.slice none 0 0)]]) p7 ⟨zs, PSub.refl _, zc, trivial⟩
 replace c1 := PSpec.args (args := [PV.agg [.val (.slice none 0 0), .val (.slice none 0 0), .val (.slice none 0 0), .val (.slice none 0 0), .val (.slice none 0 0), .val (.slice none 0 0)]]) c1 ⟨zs, trivial⟩
 refine PSpec.of_vc (fun Γ => more8 false Γ.P Γ.fx) (fun Γ => more8_ok) Try.func9 rfl Try.call9 (by simp) ?_
 rintro ⟨P, N, w0, X, β0, fx, y, hy, pk, df⟩ rfl rfl rfl hoff rfl; change y.on = false at hoff
 skip
 refine .inl ⟨_, sample_spec, ?_⟩
 repeat' ((try conv => whnf); first|refine aq rfl ?_|refine aq bd ?_|fail)
 refine .inl ⟨_, p1, ?_⟩
 repeat' ((try conv => whnf); first|refine aq rfl ?_|fail)
 refine .inl ⟨_, p2, ?_⟩
 repeat' ((try conv => whnf); first|refine aq rfl ?_|fail)
 refine .inl ⟨_, p3, ?_⟩
 repeat' ((try conv => whnf); first|refine aq rfl ?_|fail)
 refine .inl ⟨_, p4, ?_⟩
 repeat' ((try conv => whnf); first|refine aq rfl ?_|fail)
 refine .inl ⟨_, p5, ?_⟩
 repeat' ((try conv => whnf); first|refine aq rfl ?_|fail)
 refine .inl ⟨_, p6, ?_⟩
 repeat' ((try conv => whnf); first|refine aq rfl ?_|refine aq bd ?_|fail)
 refine .inl ⟨_, p7, ?_⟩
 repeat' ((try conv => whnf); first|refine aq rfl ?_|fail)
 refine .inl ⟨_, p8, ?_⟩
 repeat' ((try conv => whnf); first|refine aq rfl ?_|fail)
 refine .inl ⟨_, p9, ?_⟩
 repeat' ((try conv => whnf); first|refine aq rfl ?_|fail)
 refine .inl ⟨_, c1, ?_⟩
 skip
 refine .inl ⟨_, c2, ?_⟩
 repeat' ((try conv => whnf); first|refine aq bd ?_|fail)
 refine .inl ⟨_, s1, ?_⟩
 skip
 refine .inl ⟨_, s2, ?_⟩
 repeat' ((try conv => whnf); first|refine aq bd ?_|fail)
 refine .inl ⟨_, s3, ?_⟩
 skip
 refine .inl ⟨_, s2, ?_⟩
 skip
 exact PSub.refl _
end Go.Proofs.Ytihbkbioafdhjaa
