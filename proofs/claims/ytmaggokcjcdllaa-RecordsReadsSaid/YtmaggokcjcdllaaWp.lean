/- Facts: they are grouped by their keys. Conditions: none. -/
import Derived.Test.YtmaggokcjcdllaaWd
import Derived.Test.YtmaggokcjcdllaaWo
import Derived.Test.YtmaggokcjcdllaaWg
import Derived.KernelRfl
set_option linter.unusedSimpArgs false
set_option linter.unusedVariables false
namespace Go.Proofs.Ytmaggokcjcdllaa
open Go.Avc
def kyK : MKey Ky := recK [.i .i64, .i .i64, .i .i64] vKy (fun _ => ⟨rfl, rfl, rfl, trivial⟩) (fun a b => by
  obtain ⟨a1, a2, a3⟩ := a; obtain ⟨b1, b2, b3⟩ := b
  simp [vKy])
def facL (l : List Fa) : List (Ky × List PV) := l.map fun f => (f.key, encFa f)
def grpPV (l : List Fa) : PV := .mp ((gks (facL l)).map kyK.val) ((gks (facL l)).map fun k => .sl 8 (grw (facL l) k))
set_option maxRecDepth 20000
set_option maxHeartbeats 4000000
set_option linter.unusedSimpArgs false
attribute [local irreducible] PSub Wp PSpec Le Need Both
theorem group_spec (l : List Fa) (hl : l.length ≤ 1000000) : PSpec Try.prog 55 [encFs l] (grpPV l) := by
  have hL : (facL l).length = l.length := by simp [facL]
  have hat : ∀ i (h : i < (facL l).length), (facL l)[i] = ((l[i]'(by omega)).key, encFa (l[i]'(by omega))) := fun i h => by simp [facL]
  have hval : ∀ q ∈ facL l, ∀ p ∈ q.2, ∃ v, p = .val v := by
    intro q hq p hp
    unfold facL at hq
    rw [List.mem_map] at hq
    obtain ⟨f, _, rfl⟩ := hq
    simp only [encFa, List.mem_cons, List.not_mem_nil, or_false] at hp
    rcases hp with rfl | rfl | rfl | rfl | rfl | rfl | rfl | rfl <;> exact ⟨_, rfl⟩
  refine PSpec.of_vcG2 kyK 8 (facL l) (t := 2) Try.func55 rfl Try.call55 (by simp) rfl ?_
  have hz : ∀ u : World, (zeroValue 33).run Try.prog u = .ok (.slice none 0 0) u := zeroNil (by kernel_rfl)
  have hok : kyK.ok Try.prog 46 = true := by kernel_rfl
  rintro ⟨P, N, w0, X, β0, fx, y, hy, pk, df⟩ rfl rfl rfl rfl hG
  skip
  refine Wp.mkMap (more := more8 false _ _) (rest := [_]) more8_ok FOK.wide hG rfl rfl rfl rfl rfl (Nat.le_of_ble_eq_true rfl) rfl fun mb => ?_
  skip
  refine Wp.loop (fun i : Nat => ⟨[(3, .pure (.val (.map (some mb)))), (7, .pure (encFs l)), (8, .int l.length), (9, .int i), (24, .gh (gIx (facL l).length mb i) false)], [], []⟩) (fun i => i ≤ l.length) (fun i => l.length - i) 0 (Le.of ?_ ?_ rfl rfl rfl) (by omega) ?_
  · (repeat' (first | exact trivial | refine And.intro ?_ ?_ | exact Or.inl rfl | exact l1 bd | fail))
  · (repeat' (first | exact trivial | fail))
  intro i hi
  by_cases hi2 : i < l.length
  · have hiL : i < (facL l).length := by omega
    have hLi := hat i hiL
    have hg : grw ((facL l).take (i + 1)) (facL l)[i].1 = grw ((facL l).take i) (facL l)[i].1 ++ [encFa l[i]] := by
      rw [take_at hiL, grw_snoc, if_pos rfl, hLi]
    have hgl : (grw ((facL l).take i) (facL l)[i].1).length ≤ 1000000 := by have := grw_len ((facL l).take i) (facL l)[i].1; rw [List.length_take] at this; omega
    refine code_soundG (more := more8 false _ _) more8_ok FOK.wide _ ?_
    repeat' ((try conv => whnf); first | (first | refine k3 (fun hb => ?_) fun hb => ?_ | refine k4 (fun hb => ?_) fun hb => ?_) <;> (try rw [List.length_map] at hb) <;> (try (exfalso; omega; done)) | refine And.intro rfl ?_ | refine s5 nm nm ?_ | fail)
    refine Wp.grow (more := more8 false _ _) (l1 := [_, _, _, _, _]) (l2 := [_, _, _]) (k0 := 400) (k1 := 20) (i := i) (mb := mb) more8_ok FOK.wide hG hval rfl rfl rfl rfl rfl rfl rfl (Nat.le_of_ble_eq_true rfl) Try.underlying110 hz hok hiL (by simp) (by simp) ?_
    repeat' ((try conv => whnf); first | refine And.intro rfl ?_ | refine And.intro bd ?_ | fail)
    refine And.intro ⟨vKy l[i].key, rfl, by rw [hLi]; rfl, _, .inl rfl⟩ ?_
    refine And.intro rfl (And.intro (by show 400 ∉ [18, 5]; decide) ?_)
    rintro j x s2 (⟨rfl, rfl⟩ | ⟨rfl, hnil, rfl⟩)
    · repeat' ((try conv => whnf); first | refine And.intro rfl ?_ | refine And.intro bd ?_ | fail)
      refine ⟨?_, ?_, rfl, ?_⟩
      · show AV.lsl 20 0 _ = AV.lsl 20 0 _
        rw [hg, List.length_append]
        rfl
      · rw [hg]; rfl
      · repeat' ((try conv => whnf); first | refine s4 nm ?_ | fail)
        exact ⟨i + 1, Le.of (by (repeat' (first | exact trivial | refine And.intro ?_ ?_ | exact Or.inl rfl | fail))) (by (repeat' (first | exact trivial | fail))) rfl rfl rfl, by omega, by omega⟩
    · repeat' ((try conv => whnf); first | refine And.intro rfl ?_ | refine And.intro bd ?_ | fail)
      refine ⟨?_, ?_, rfl, ?_⟩
      · show AV.lsl 20 0 _ = AV.lsl 20 0 _
        rw [hg, hnil]
        rfl
      · rw [hg, hnil]; rfl
      · repeat' ((try conv => whnf); first | refine s4 nm ?_ | fail)
        exact ⟨i + 1, Le.of (by (repeat' (first | exact trivial | refine And.intro ?_ ?_ | exact Or.inl rfl | fail))) (by (repeat' (first | exact trivial | fail))) rfl rfl rfl, by omega, by omega⟩
  · have e : i = l.length := by omega
    subst e
    refine code_soundG (more := more8 false _ _) more8_ok FOK.wide _ ?_
    repeat' ((try conv => whnf); first | (first | refine k3 (fun hb => ?_) fun hb => ?_ | refine k4 (fun hb => ?_) fun hb => ?_) <;> (try rw [List.length_map] at hb) <;> (try (exfalso; omega; done)) | fail)
    refine ⟨mb, ?_, rfl⟩
    show AV.gh (gIx (facL l).length mb l.length) false = AV.gh (gIx (facL l).length mb (facL l).length) false
    rw [hL]
end Go.Proofs.Ytmaggokcjcdllaa
/- Facts: lists out of iterators; values painted on the days. Conditions: none. -/
namespace Go.Proofs.Ytmaggokcjcdllaa
open Go.Avc
/-- The number of the fact that counts on a day, among the first i; 0 where there is none. -/
def cntF (own : List Fa) (d : Int) : Nat → Int
  | 0 => 0
  | i + 1 => if ((own.getD i zeroFa).lo ≤ d ∧ d < (own.getD i zeroFa).hi) ∧ (cntF own d i = 0 ∨ ¬ (own.getD i zeroFa).bef (own.getD (cntF own d i - 1).toNat zeroFa)) then i + 1 else cntF own d i
theorem cnt_rel (own : List Fa) (d : Int) : ∀ {i : Nat}, i ≤ own.length → (cntF own d i = 0 ∧ (own.take i).foldl (pickF d) none = none) ∨ ∃ (m : Nat) (h : m < own.length), m < i ∧ cntF own d i = m + 1 ∧ (own.take i).foldl (pickF d) none = some own[m]
  | 0, _ => .inl ⟨rfl, rfl⟩
  | i + 1, h => by
    have hi : i < own.length := by omega
    have hg : own.getD i zeroFa = own[i] := by simp [List.getD, hi]
    have hstep : (own.take (i + 1)).foldl (pickF d) none = pickF d ((own.take i).foldl (pickF d) none) own[i] := by
      rw [List.take_succ_eq_append_getElem hi, List.foldl_append]; rfl
    rw [hstep]
    simp only [cntF, hg]
    rcases cnt_rel own d (i := i) (by omega) with ⟨e1, e2⟩ | ⟨m, hm, h1, e1, e2⟩
    · rw [e2]
      by_cases hd : own[i].lo ≤ d ∧ d < own[i].hi
      · rw [if_pos ⟨hd, .inl e1⟩, pickF_none hd]
        exact .inr ⟨i, hi, by omega, rfl, rfl⟩
      · rw [if_neg fun h => hd h.1, pickF_no hd]
        exact .inl ⟨e1, rfl⟩
    · rw [e2]
      have hgm : own.getD (cntF own d i - 1).toNat zeroFa = own[m] := by
        rw [e1, show ((m : Int) + 1 - 1).toNat = m by omega]
        simp [List.getD, hm]
      rw [hgm]
      by_cases hd : own[i].lo ≤ d ∧ d < own[i].hi
      · by_cases hb : own[i].bef own[m]
        · rw [if_neg (by rintro ⟨_, h | h⟩; omega; exact h hb), pickF_keep hb]
          exact .inr ⟨m, hm, by omega, e1, rfl⟩
        · rw [if_pos ⟨hd, .inr hb⟩, pickF_yes hd hb]
          exact .inr ⟨i, hi, by omega, rfl, rfl⟩
      · rw [if_neg fun h => hd h.1, pickF_no hd]
        exact .inr ⟨m, hm, by omega, e1, rfl⟩
theorem cnt_bound (own : List Fa) (d : Int) {i : Nat} (h : i ≤ own.length) : 0 ≤ cntF own d i ∧ cntF own d i ≤ i := by
  rcases cnt_rel own d h with ⟨e, _⟩ | ⟨m, _, h1, e, _⟩ <;> rw [e] <;> omega
theorem getD_at {α : Type} {l : List α} {n : Nat} {z : α} (h : n < l.length) : l.getD n z = l[n] := by
  rw [List.getD_eq_getElem?_getD, List.getElem?_eq_getElem h]; rfl
theorem rep_getD (x : Nat) (hx : x < 1024) : (List.replicate 1024 (0 : Int)).getD x 0 = 0 := by
  rw [List.getD_eq_getElem?_getD, List.getElem?_replicate, if_pos hx]; rfl
theorem set_getD {cs : List Int} {n x : Nat} {v : Int} (hn : n < cs.length) : (cs.set n v).getD x 0 = if x = n then v else cs.getD x 0 := by
  rw [List.getD_eq_getElem?_getD, List.getD_eq_getElem?_getD, List.getElem?_set]
  by_cases e : n = x
  · subst e; simp [hn]
  · rw [if_neg e, if_neg (Ne.symm e)]
theorem cnt_out {own : List Fa} {d : Int} {i : Nat} (h : ¬ ((own.getD i zeroFa).lo ≤ d ∧ d < (own.getD i zeroFa).hi)) : cntF own d (i + 1) = cntF own d i := by
  rw [cntF, if_neg fun h' => h h'.1]
theorem inner_step {own : List Fa} {i : Nat} {D : Int} {e : Nat} {cs cs' : List Int} (hD : 0 ≤ D) (hcs : ∀ x : Nat, x < 1024 → cs.getD x 0 = if (x : Int) < D + e then cntF own x (i + 1) else cntF own x i)
    (h' : ∀ x : Nat, x ≠ (D + (e : Int)).toNat → cs'.getD x 0 = cs.getD x 0) (hv : cs'.getD (D + (e : Int)).toNat 0 = cntF own (D + e) (i + 1)) : ∀ x : Nat, x < 1024 → cs'.getD x 0 = if (x : Int) < D + ((e + 1 : Nat) : Int) then cntF own x (i + 1) else cntF own x i := by
  intro x hx
  by_cases e0 : x = (D + (e : Int)).toNat
  · rw [e0, hv, if_pos (by omega), show (((D + (e : Int)).toNat : Nat) : Int) = D + e by omega]
  · rw [h' x e0, hcs x hx]
    by_cases h1 : (x : Int) < D + e
    · rw [if_pos h1, if_pos (by omega)]
    · rw [if_neg h1, if_neg (by omega)]
/-- The value on a day, -1 where there is none. -/
def pnt (l : List Fa) (k : Ky) (kn : Int) (d : Int) : Int := if (atF l k d kn).2 = true then (atF l k d kn).1 else -1
def pntL (l : List Fa) (k : Ky) (kn : Int) : List Int := (List.range 1024).map fun d : Nat => pnt l k kn (d : Int)
def encA (l : List Int) : PV := .par 1 (l.map fun x => [PV.int x])
theorem pnt_cnt {l : List Fa} {k : Ky} {kn d : Int} : pnt l k kn d = if 0 < cntF (abtF l k kn) d (abtF l k kn).length then max ((abtF l k kn).getD (cntF (abtF l k kn) d (abtF l k kn).length - 1).toNat zeroFa).value (-1) else -1 := by
  unfold pnt atF bestF
  have h := cnt_rel (abtF l k kn) d (Nat.le_refl _)
  rw [List.take_of_length_le (Nat.le_refl _)] at h
  rcases h with ⟨e1, e2⟩ | ⟨m, hm, h1, e1, e2⟩
  · rw [e1, e2]; simp [valF]
  · rw [e1, e2, if_pos (by omega : (0 : Int) < (m : Int) + 1), show ((m : Int) + 1 - 1).toNat = m by omega]
    have hg : (abtF l k kn).getD m zeroFa = (abtF l k kn)[m] := by simp [List.getD, hm]
    rw [hg]
    unfold valF
    simp only
    split <;> split <;> simp_all <;> omega
set_option maxRecDepth 20000
set_option maxHeartbeats 4000000
set_option linter.unusedSimpArgs false
attribute [local irreducible] PSub Wp PSpec Le Need Both
attribute [local irreducible] Fa.bef atF
theorem appendSeqF_spec (xs : List Fa) (f : FuncId) (caps : List PV) (hI : ISpec Try.prog f caps (facRows xs)) (hl : xs.length ≤ 1000000) : PSpec Try.prog 85 [.val (.slice none 0 0), .fn f caps] (encFs xs) := by
  have e : (facRows xs).length = xs.length := by simp [facRows]
  refine PSpec.of_vc (fun Γ => more8 false Γ.P Γ.fx) (fun Γ => more8_ok) Try.func85 rfl Try.call85 (by simp) ?_
  rintro ⟨P, N, w0, X, β0, fx, y, hy, pk, df⟩ rfl rfl rfl hoff rfl; change y.on = false at hoff
  skip
  refine Wp.rangeFunc hI [(2, .loc 2 0 0), (4, .pure (.val (.slice none 0 0))), (6, .pure (.fn f caps))]
      (fun i => [(2, some (.box [.lsl 50 0 (xs.take i).length])), (50, some (.row 8 ((xs.take i).map encFa)))]) (fun _ => [2, 50]) [2]
      (fun _ => True)
      (Le.trans (Le.virt (k := 50) (sz := 8) rfl rfl (by omega)) (Le.of ?_ ?_ rfl rfl rfl)) rfl hoff trivial rfl rfl (fun _ => rfl) rfl (fun i row hrow => ?_) ?_ ?_
  · (repeat' (first | exact trivial | refine And.intro ?_ ?_ | exact Or.inl rfl | fail))
  · (repeat' (first | exact trivial | exact rfl | refine And.intro ?_ ?_ | refine Exists.intro _ (And.intro rfl ?_) | exact l6 rfl | fail))
  · simp only [facRows, List.getElem?_map, Option.map_eq_some_iff] at hrow
    obtain ⟨w, _, rfl⟩ := hrow
    rfl
  · rintro ⟨P1, N1, w1, X1, β1, fx1, y1, hy1, pk1, df1⟩ rfl rfl rfl hoff1 rfl l k row hrow hok; change y1.on = false at hoff1
    have hk : k < xs.length := by have := (List.getElem?_eq_some_iff.1 hrow).1; simpa [facRows] using this
    rw [facRows, List.getElem?_map, List.getElem?_eq_getElem hk] at hrow
    cases hrow
    have hlt : (xs.take k).length = k := by simp; omega
    refine code_sound (more := more8 false _ _) more8_ok (FOK.inRound _) _ ?_
    repeat' ((try conv => whnf); first | refine And.intro rfl ?_ | fail)
    rintro ⟨P2, N2, w2, X2, β2, fx2, y2, hy2, pk2, df2⟩ rfl rfl rfl hoff2 rfl; change y2.on = false at hoff2
    refine code_sound (more := more8 false _ _) more8_ok (FOK.inRound _) _ ?_
    repeat' ((try conv => whnf); first | refine Both.intro ?_ ?_ | refine And.intro rfl ?_ | refine And.intro bd ?_ | fail)
    · refine Le.map [(50, 11)] trivial ?_ rfl rfl rfl rfl
      (repeat' (first | exact trivial | refine And.intro ?_ ?_ | refine Exists.intro _ (And.intro rfl ?_) | exact SubA.lsl ls | fail))
      all_goals first
        | (refine SubA.lsl ?_; focus (simp; omega))
        | (refine rowEq ?_; focus (rw [List.take_succ_eq_append_getElem hk, List.map_append]; rfl))
    · trivial
  · intro _
    rw [e, List.take_of_length_le (Nat.le_refl _)]
    skip
    exact sub_sl (by rw [List.drop_zero, List.take_of_length_le (by simp)])
theorem collectF_spec (xs : List Fa) (f : FuncId) (caps : List PV) (hI : ISpec Try.prog f caps (facRows xs)) (hl : xs.length ≤ 1000000) : PSpec Try.prog 72 [.fn f caps] (encFs xs) := by
  refine PSpec.of_vc (fun Γ => more8 false Γ.P Γ.fx) (fun Γ => more8_ok) Try.func72 rfl Try.call72 (by simp) ?_
  rintro ⟨P, N, w0, X, β0, fx, y, hy, pk, df⟩ rfl rfl rfl hoff rfl; change y.on = false at hoff
  skip
  refine .inl ⟨_, appendSeqF_spec xs f caps hI hl, ?_⟩
  repeat' ((try conv => whnf); first | refine And.intro rfl ?_ | fail)
  exact PSub.refl _
theorem paint_spec (l : List Fa) (k : Ky) (kn : Int) (hl : l.length ≤ 100000) : PSpec Try.prog 57 [encFs l, .agg (encKy k), .int kn] (encA (pntL l k kn)) := by
  have hI := about1_spec l k kn (by omega)
  have hpnt : ∀ d : Int, pnt l k kn d = if 0 < cntF (abtF l k kn) d (abtF l k kn).length then max ((abtF l k kn).getD (cntF (abtF l k kn) d (abtF l k kn).length - 1).toNat zeroFa).value (-1) else -1 := fun d => pnt_cnt
  obtain ⟨own, hown⟩ : ∃ xs, xs = abtF l k kn := ⟨_, rfl⟩
  have ho : own.length ≤ l.length := by rw [hown]; exact List.length_filter_le _ _
  rw [← hown] at hI hpnt
  have hol : (own.map encFa).length = own.length := List.length_map ..
  refine PSpec.of_vc (fun Γ => more8 false Γ.P Γ.fx) (fun Γ => more8_ok) Try.func57 rfl Try.call57 (by simp) ?_
  rintro ⟨P, N, w0, X, β0, fx, y, hy, pk, df⟩ rfl rfl rfl hoff rfl; change y.on = false at hoff
  skip
  refine .inl ⟨_, about_spec l k kn, ?_⟩
  repeat' ((try conv => whnf); first | refine And.intro rfl ?_ | fail)
  refine .inl ⟨_, collectF_spec own _ _ hI (by omega), ?_⟩
  repeat' ((try conv => whnf); first | refine And.intro rfl ?_ | fail)
  refine Wp.loop (fun y : Nat × List Int => ⟨[(7, .loc 7 0 0), (8, .pure (encFs own)), (19, .pure (encFs own)), (20, .int own.length), (21, .int y.1)], [(7, some (.row 1 (y.2.map fun x => [PV.int x])))], [7]⟩)
    (fun y => y.1 ≤ own.length ∧ y.2.length = 1024 ∧ ∀ x : Nat, x < 1024 → y.2.getD x 0 = cntF own x y.1) (fun y => own.length - y.1) (0, List.replicate 1024 0) (Le.of ?_ ?_ rfl rfl rfl) ⟨Nat.zero_le _, List.length_replicate, fun x hx => rep_getD x hx⟩ ?_
  · (repeat' (first | exact trivial | refine And.intro ?_ ?_ | exact Or.inl rfl | exact l1 bd | fail))
  · refine And.intro (rowEq ?_) trivial
    kernel_rfl
  rintro ⟨i, cs⟩ ⟨hi, hc, hcs⟩
  dsimp only at hi hc hcs ⊢
  by_cases hi2 : i < own.length
  · have hgi : own.getD i zeroFa = own[i] := by simp [List.getD, hi2]
    obtain ⟨D, hD⟩ : ∃ D, D = max own[i].lo 0 := ⟨_, rfl⟩
    refine code_sound (more := more8 false _ _) more8_ok FOK.wide _ ?_
    repeat' ((try conv => whnf); first | (first | refine k3 (fun hb => ?_) fun hb => ?_ | refine k4 (fun hb => ?_) fun hb => ?_) <;> (try rw [List.length_map] at hb) <;> (try (exfalso; omega; done)) | refine And.intro rfl ?_ | refine s5 nm nm ?_ | fail)
    refine Wp.loop (fun z : Nat × List Int => ⟨[(7, .loc 7 0 0), (8, .pure (encFs own)), (9, .int i), (10, .loc 10 0 0), (11, .int (D + z.1)), (19, .pure (encFs own)), (20, .int own.length), (21, .int i)], [(7, some (.row 1 (z.2.map fun x => [PV.int x]))), (10, some (.box (pures (encFa own[i]))))], [7, 10]⟩)
      (fun z => z.2.length = 1024 ∧ (z.1 = 0 ∨ D + z.1 ≤ min own[i].hi 1024) ∧ ∀ x : Nat, x < 1024 → z.2.getD x 0 = if (x : Int) < D + z.1 then cntF own x (i + 1) else cntF own x i) (fun z => (1024 - D - z.1).toNat) (0, cs) (Le.of ?_ ?_ rfl rfl rfl) ⟨hc, .inl rfl, fun x hx => by
        rw [hcs x hx]
        split
        · rw [cnt_out]
          rw [hgi]
          simp only [Int.natCast_zero] at *
          omega
        · rfl⟩ ?_
    · (repeat' (first | exact trivial | refine And.intro ?_ ?_ | exact Or.inl rfl | exact l1 bd | fail))
    · (repeat' (first | exact trivial | exact rfl | refine And.intro ?_ ?_ | refine Exists.intro _ (And.intro rfl ?_) | exact Or.inl rfl | fail))
    clear hcs hc
    clear cs
    rintro ⟨e, cs⟩ ⟨hc, he, hcs⟩
    dsimp only at hc he hcs ⊢
    by_cases hlt : D + (e : Int) < min own[i].hi 1024
    · have hn : (D + (e : Int)).toNat < cs.length := by omega
      have hcn := hcs (D + (e : Int)).toNat (by omega)
      rw [if_neg (by omega), show (((D + (e : Int)).toNat : Nat) : Int) = D + e by omega] at hcn
      have hb := cnt_bound own (D + e) (i := i) (by omega)
      have hgc : cs.getD (D + (e : Int)).toNat 0 = cs[(D + (e : Int)).toNat] := by simp [List.getD, hn]
      rw [hgc] at hcn
      have hcn0 : 0 ≤ cs[(D + (e : Int)).toNat] ∧ cs[(D + (e : Int)).toNat] ≤ i := by omega
      have hin : own[i].lo ≤ D + (e : Int) ∧ D + (e : Int) < own[i].hi := by omega
      have hst : ∀ v : Int, v = cntF own (D + e) (i + 1) → ∀ x : Nat, x < 1024 → (cs.set (D + (e : Int)).toNat v).getD x 0 = if (x : Int) < D + ((e + 1 : Nat) : Int) then cntF own x (i + 1) else cntF own x i := fun v hv =>
        inner_step (by omega) hcs (fun x hx => by rw [set_getD hn, if_neg hx]) (by rw [set_getD hn, if_pos rfl, hv])
      have hnew : (cntF own (D + e) i = 0 ∨ ¬ own[i].bef (own.getD (cntF own (D + e) i - 1).toNat zeroFa)) → ((i : Int) + 1) = cntF own (D + e) (i + 1) := fun h => by
        rw [cntF, hgi, if_pos ⟨hin, h⟩]
      have hkeep : ¬ (cntF own (D + e) i = 0 ∨ ¬ own[i].bef (own.getD (cntF own (D + e) i - 1).toNat zeroFa)) → cs[(D + (e : Int)).toNat] = cntF own (D + e) (i + 1) := fun h => by
        rw [cntF, hgi, if_neg fun h' => h h'.2, hcn]
      by_cases h0 : cs[(D + (e : Int)).toNat] = 0
      · refine code_sound (more := more8 false _ _) more8_ok FOK.wide _ ?_
        repeat' ((try conv => whnf); first | (first | refine k3 (fun hb => ?_) fun hb => ?_ | refine k4 (fun hb => ?_) fun hb => ?_) <;> (try rw [List.length_map] at hb) <;> (try (exfalso; omega; done)) | fail)
        refine Wp.draw (more := more8 true _ _) more8_det more8_ok FOK.wide rfl (by decide +kernel) (by conv => lhs; reduce) ?_
        repeat' ((try conv => whnf); first | (first | refine k3 (fun hb => ?_) fun hb => ?_ | refine k4 (fun hb => ?_) fun hb => ?_) <;> (try rw [List.length_map] at hb) <;> (try (exfalso; omega; done)) | refine And.intro rfl ?_ | refine s4 nm ?_ | refine And.intro bd ?_ | refine ⟨_, _, getMapN nm, rfl, ?_⟩ | refine .inl ⟨rfl, rfl, bd, rfl, rfl, ?_⟩ | fail)
        refine ⟨(e + 1, cs.set (D + (e : Int)).toNat ((i : Int) + 1)), Le.of ?_ ?_ rfl rfl rfl, ⟨by rw [List.length_set]; exact hc, .inr (by simp only; omega), hst _ (hnew (.inl (by omega)))⟩, by simp only; omega⟩
        · (repeat' (first | exact trivial | refine And.intro ?_ ?_ | exact Or.inl rfl | exact l1 bd | fail))
        · (repeat' (first | exact trivial | refine And.intro ?_ ?_ | refine Exists.intro _ (And.intro rfl ?_) | exact Or.inl rfl | exact rowEq rs | fail))
          all_goals (refine rowEq ?_; rw [List.map_set])
      · have hm : (cs[(D + (e : Int)).toNat] - 1).toNat < own.length := by omega
        have hgm : own.getD (cntF own (D + e) i - 1).toNat zeroFa = own[(cs[(D + (e : Int)).toNat] - 1).toNat] := by rw [← hcn]; exact getD_at hm
        rw [hgm] at hnew hkeep
        have q := order_spec own[(cs[(D + (e : Int)).toNat] - 1).toNat] own[i]
        have hle := cmpF_le own[(cs[(D + (e : Int)).toNat] - 1).toNat] own[i]
        obtain ⟨c, hcc⟩ : ∃ c, c = cmpF own[(cs[(D + (e : Int)).toNat] - 1).toNat] own[i] := ⟨_, rfl⟩
        rw [← hcc] at q hle
        have hg2 := getF hm
        refine code_sound (more := more8 false _ _) more8_ok FOK.wide _ ?_
        repeat' ((try conv => whnf); first | (first | refine k3 (fun hb => ?_) fun hb => ?_ | refine k4 (fun hb => ?_) fun hb => ?_) <;> (try rw [List.length_map] at hb) <;> (try (exfalso; omega; done)) | fail)
        refine Wp.draw (more := more8 true _ _) more8_det more8_ok FOK.wide rfl (by decide +kernel) (by conv => lhs; reduce) ?_
        repeat' ((try conv => whnf); first | (first | refine k3 (fun hb => ?_) fun hb => ?_ | refine k4 (fun hb => ?_) fun hb => ?_) <;> (try rw [List.length_map] at hb) <;> (try (exfalso; omega; done)) | refine And.intro rfl ?_ | refine s4 nm ?_ | refine s6 nm nm ?_ | refine And.intro bd ?_ | refine ⟨_, _, getMapN nm, rfl, ?_⟩ | fail)
        refine ⟨_, q, ?_⟩
        repeat' ((try conv => whnf); first | (first | refine k3 (fun hb => ?_) fun hb => ?_ | refine k4 (fun hb => ?_) fun hb => ?_) <;> (try rw [List.length_map] at hb) <;> (try (exfalso; omega; done)) | refine And.intro rfl ?_ | refine s4 nm ?_ | refine And.intro bd ?_ | refine .inl ⟨rfl, rfl, bd, rfl, rfl, ?_⟩ | fail)
        · refine ⟨(e + 1, cs.set (D + (e : Int)).toNat ((i : Int) + 1)), Le.of ?_ ?_ rfl rfl rfl, ⟨by rw [List.length_set]; exact hc, .inr (by simp only; omega), hst _ (hnew (.inr (hle.1 (by assumption))))⟩, by simp only; omega⟩
          · (repeat' (first | exact trivial | refine And.intro ?_ ?_ | exact Or.inl rfl | exact l1 bd | fail))
          · (repeat' (first | exact trivial | refine And.intro ?_ ?_ | refine Exists.intro _ (And.intro rfl ?_) | exact Or.inl rfl | exact rowEq rs | fail))
            all_goals (refine rowEq ?_; rw [List.map_set])
        · refine ⟨(e + 1, cs), Le.of (by (repeat' (first | exact trivial | refine And.intro ?_ ?_ | exact Or.inl rfl | exact l1 bd | fail))) (by (repeat' (first | exact trivial | exact rfl | refine And.intro ?_ ?_ | refine Exists.intro _ (And.intro rfl ?_) | exact Or.inl rfl | fail))) rfl rfl rfl, ⟨hc, .inr (by simp only; omega), inner_step (by omega) hcs (fun _ _ => rfl) (by rw [hgc]; exact hkeep (by rintro (h | h); omega; exact absurd (hle.2 h) (by assumption)))⟩, by simp only; omega⟩
    · refine code_sound (more := more8 false _ _) more8_ok FOK.wide _ ?_
      repeat' ((try conv => whnf); first | (first | refine k3 (fun hb => ?_) fun hb => ?_ | refine k4 (fun hb => ?_) fun hb => ?_) <;> (try rw [List.length_map] at hb) <;> (try (exfalso; omega; done)) | refine s4 nm ?_ | fail)
      refine ⟨(i + 1, cs), Le.of (by (repeat' (first | exact trivial | refine And.intro ?_ ?_ | exact Or.inl rfl | fail))) (by (repeat' (first | exact trivial | exact rfl | refine And.intro ?_ ?_ | fail))) rfl rfl rfl, ⟨hi2, hc, fun x hx => ?_⟩, by simp only; omega⟩
      simp only
      rw [hcs x hx]
      split
      · rfl
      · rw [cnt_out]
        rw [hgi]
        omega
  · have ei : i = own.length := by omega
    subst ei
    refine code_sound (more := more8 false _ _) more8_ok FOK.wide _ ?_
    repeat' ((try conv => whnf); first | (first | refine k3 (fun hb => ?_) fun hb => ?_ | refine k4 (fun hb => ?_) fun hb => ?_) <;> (try rw [List.length_map] at hb) <;> (try (exfalso; omega; done)) | fail)
    refine Wp.loop (fun y : Nat × List Int => ⟨[(7, .loc 7 0 0), (8, .pure (encFs own)), (12, .loc 12 0 0), (59, .int y.1)], [(7, some (.row 1 (cs.map fun x => [PV.int x]))), (12, some (.row 1 (y.2.map fun x => [PV.int x])))], [7, 12]⟩)
      (fun y => y.1 ≤ 1024 ∧ y.2.length = 1024 ∧ ∀ x : Nat, x < y.1 → y.2.getD x 0 = pnt l k kn x) (fun y => 1024 - y.1) (0, List.replicate 1024 0) (Le.of ?_ ?_ rfl rfl rfl) ⟨Nat.zero_le _, List.length_replicate, fun x hx => absurd hx (Nat.not_lt_zero _)⟩ ?_
    · (repeat' (first | exact trivial | refine And.intro ?_ ?_ | exact Or.inl rfl | fail))
    · refine And.intro ?_ (And.intro (rowEq ?_) trivial)
      · (repeat' (first | exact rfl | fail))
      · kernel_rfl
    rintro ⟨d, vs⟩ ⟨hd, hv, hvs⟩
    dsimp only at hd hv hvs ⊢
    by_cases hd2 : d < 1024
    · have hdn : ((d : Nat) : Int).toNat < cs.length := by omega
      have hcd := hcs d hd2
      have hb := cnt_bound own d (i := own.length) (Nat.le_refl _)
      have hgc : cs.getD d 0 = cs[((d : Nat) : Int).toNat] := getD_at hdn
      rw [hgc] at hcd
      have hcb : 0 ≤ cs[((d : Nat) : Int).toNat] ∧ cs[((d : Nat) : Int).toNat] ≤ own.length := by omega
      have hp := hpnt d
      have hvn : ((d : Nat) : Int).toNat < vs.length := by omega
      have hnext : ∀ vs' : List Int, (∀ x : Nat, x ≠ d → vs'.getD x 0 = vs.getD x 0) → vs'.getD d 0 = pnt l k kn d → ∀ x : Nat, x < d + 1 → vs'.getD x 0 = pnt l k kn x := fun vs' h1 h2 x hx => by
        by_cases e : x = d
        · subst e; exact h2
        · rw [h1 x e]; exact hvs x (by omega)
      refine code_sound (more := more8 false _ _) more8_ok FOK.wide _ ?_
      repeat' ((try conv => whnf); first | (first | refine k3 (fun hb => ?_) fun hb => ?_ | refine k4 (fun hb => ?_) fun hb => ?_) <;> (try rw [List.length_map] at hb) <;> (try (exfalso; omega; done)) | refine And.intro rfl ?_ | refine s4 nm ?_ | refine s6 nm nm ?_ | refine And.intro bd ?_ | refine ⟨_, _, getMapN nm, rfl, ?_⟩ | refine .inl ⟨rfl, rfl, bd, rfl, rfl, ?_⟩ | fail)
      · have hm : (cs[((d : Nat) : Int).toNat] - 1).toNat < own.length := by omega
        rw [← hcd, if_pos (by assumption), getD_at hm] at hp
        refine ⟨(d + 1, (vs.set ((d : Nat) : Int).toNat (-1)).set ((d : Nat) : Int).toNat (max own[(cs[((d : Nat) : Int).toNat] - 1).toNat].value (-1))), Le.of ?_ ?_ rfl rfl rfl, ⟨by simp only; omega, by simp only [List.length_set]; exact hv, hnext _ (fun x hx => ?_) ?_⟩, by simp only; omega⟩
        · (repeat' (first | exact trivial | refine And.intro ?_ ?_ | exact Or.inl rfl | fail))
        · (repeat' (first | exact trivial | exact rfl | refine And.intro ?_ ?_ | exact rowEq rs | fail))
          all_goals (refine rowEq ?_; rw [List.map_set, List.map_set])
        · rw [set_getD (by rw [List.length_set]; exact hvn), if_neg (by omega), set_getD hvn, if_neg (by omega)]
        · rw [set_getD (by rw [List.length_set]; exact hvn), if_pos (by omega), hp]
      · rw [← hcd, if_neg (by assumption)] at hp
        refine ⟨(d + 1, vs.set ((d : Nat) : Int).toNat (-1)), Le.of ?_ ?_ rfl rfl rfl, ⟨by simp only; omega, by simp only [List.length_set]; exact hv, hnext _ (fun x hx => ?_) ?_⟩, by simp only; omega⟩
        · (repeat' (first | exact trivial | refine And.intro ?_ ?_ | exact Or.inl rfl | fail))
        · (repeat' (first | exact trivial | exact rfl | refine And.intro ?_ ?_ | exact rowEq rs | fail))
          all_goals (refine rowEq ?_; rw [List.map_set])
        · rw [set_getD hvn, if_neg (by omega)]
        · rw [set_getD hvn, if_pos (by omega), hp]
    · have ed : d = 1024 := by omega
      subst ed
      have evs : vs = pntL l k kn := by
        refine List.ext_getElem (by rw [hv]; simp [pntL]) fun x h1 h2 => ?_
        rw [← getD_at (z := 0) h1, hvs x (by omega)]
        simp [pntL]
      rw [evs]
      refine code_sound (more := more8 false _ _) more8_ok FOK.wide _ ?_
      skip
      exact PSub.refl _
end Go.Proofs.Ytmaggokcjcdllaa
