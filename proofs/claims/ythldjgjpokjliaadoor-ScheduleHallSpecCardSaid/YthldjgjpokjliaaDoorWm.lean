/- Schedules: sets of needs as bits: how many, which, and which of two lists comes first. Conditions: none. -/
import Derived.Test.YthldjgjpokjliaaDoorWd
import Derived.Test.YthldjgjpokjliaaDoorWl
import Derived.Test.YthldjgjpokjliaaDoorWj
set_option linter.unusedSimpArgs false
set_option linter.unusedVariables false
set_option maxRecDepth 20000
set_option maxHeartbeats 4000000
namespace Go.Proofs.YthldjgjpokjliaaDoor
open Go.Avc
def mb (x : Nat) : List Nat := (List.range 6).filter fun i => x.testBit i
def oc1 (x : Nat) : Nat := (x / 2 ^ 1 &&& 6148914691236517205) + (x &&& 6148914691236517205)
def oc2 (x : Nat) : Nat := (x / 2 ^ 2 &&& 3689348814741910323) + (x &&& 3689348814741910323)
def oc3 (x : Nat) : Nat := (x / 2 ^ 4 + x) &&& 1085102592571150095
def oc4 (x : Nat) : Nat := x + x / 2 ^ 8
def oc5 (x : Nat) : Nat := x + x / 2 ^ 16
def oc6 (x : Nat) : Nat := x + x / 2 ^ 32
theorem oc_tab : ∀ x, x < 64 → (oc6 (oc5 (oc4 (oc3 (oc2 (oc1 x)))))) &&& 127 = (mb x).length ∧ oc1 x ≤ 64 ∧ oc2 (oc1 x) ≤ 64 ∧ oc3 (oc2 (oc1 x)) ≤ 64 ∧ oc4 (oc3 (oc2 (oc1 x))) ≤ 64 ∧ oc5 (oc4 (oc3 (oc2 (oc1 x)))) ≤ 64 ∧ oc6 (oc5 (oc4 (oc3 (oc2 (oc1 x))))) ≤ 64 := by decide +kernel
theorem shr64 (a n : Nat) (h : n ≤ 64) : (a : Int).fdiv (2 ^ (min (n : Int).toNat IntKind.u64.bits)) = ((a / 2 ^ n : Nat) : Int) := shr_nat a n 64 h
theorem add64 (a b : Nat) (h : a + b < 18446744073709551616) : IntKind.u64.wrap ((a : Int) + (b : Int)) = ((a + b : Nat) : Int) := by rw [wrap_u64]; omega
theorem and_i64 (a b : Nat) (ha : a < 9223372036854775808) (hb : b < 9223372036854775808) : bits .and .i64 (a : Int) (b : Int) = ((a &&& b : Nat) : Int) := (bits_nat .i64 63 (by decide) wraps_i64 a b ha hb).1
def lenB (x : Nat) : Nat := if x = 0 then 0 else Nat.log2 x + 1
theorem lentab {A : Array UInt8} (h : ((List.range 64).all fun x => decide (A[x]? = some (UInt8.ofNat (lenB x)))) = true) (x : Nat) (hx : x < 64) : A[((x : Nat) : Int).toNat]? = some (UInt8.ofNat (lenB x)) := by
 rw [Int.toNat_natCast]
 exact of_decide_eq_true (List.all_eq_true.1 h x (List.mem_range.2 hx))
theorem lenB_tab : ∀ x, x < 64 → (UInt8.ofNat (lenB x)).toNat = lenB x ∧ lenB x ≤ 6 ∧ mb x = (List.range (lenB x)).filter fun i => x.testBit i := by decide +kernel
attribute [local irreducible] PSub Wp PSpec Le Need Both
theorem ones64_spec (x : Nat) (hx : x < 64) : PSpec Tryd.prog 45 [.val (.int .u64 x)] (.int ((mb x).length : Nat)) := by
 obtain ⟨h0, h1, h2, h3, h4, h5, h6⟩ := oc_tab x hx
 rw [← h0]
 refine PSpec.of_vc (fun Γ => more8 false Γ.P Γ.fx) (fun Γ => more8_ok) Tryd.func45 rfl Tryd.call45 (by simp) ?_
 rintro ⟨P, N, w0, X, β0, fx, y, hy, pk, df⟩ rfl rfl rfl hoff rfl; change y.on = false at hoff
 repeat' ((try conv => whnf); first|refine aq bd ?_|fail)
 refine ⟨_, shr64 x 1 (by decide), ?_⟩
 skip
 refine ⟨_, bits_and_u64_nat (x / 2 ^ 1) 6148914691236517205 (by omega) (by decide), ?_⟩
 skip
 refine ⟨_, bits_and_u64_nat x 6148914691236517205 (by omega) (by decide), ?_⟩
 skip
 have b1 : oc1 x < 18446744073709551616 := by omega
 refine ⟨_, add64 _ _ b1, ?_⟩
 obtain ⟨y, hy1⟩ : ∃ y, y = oc1 x := ⟨_, rfl⟩
 rw [show (x / 2 ^ 1 &&& 6148914691236517205) + (x &&& 6148914691236517205) = y from hy1.symm]
 rw [← hy1] at h1 h2 h3 h4 h5 h6 ⊢
 repeat' ((try conv => whnf); first|refine aq bd ?_|fail)
 refine ⟨_, shr64 y 2 (by decide), ?_⟩
 skip
 refine ⟨_, bits_and_u64_nat (y / 2 ^ 2) 3689348814741910323 (by omega) (by decide), ?_⟩
 skip
 refine ⟨_, bits_and_u64_nat y 3689348814741910323 (by omega) (by decide), ?_⟩
 skip
 have b2 : oc2 y < 18446744073709551616 := by omega
 refine ⟨_, add64 _ _ b2, ?_⟩
 obtain ⟨z, hz1⟩ : ∃ z, z = oc2 y := ⟨_, rfl⟩
 rw [show (y / 2 ^ 2 &&& 3689348814741910323) + (y &&& 3689348814741910323) = z from hz1.symm]
 rw [← hz1] at h2 h3 h4 h5 h6 ⊢
 repeat' ((try conv => whnf); first|refine aq bd ?_|fail)
 refine ⟨_, shr64 z 4 (by decide), ?_⟩
 skip
 refine ⟨_, add64 _ _ (by omega), ?_⟩
 skip
 refine ⟨_, bits_and_u64_nat (z / 2 ^ 4 + z) 1085102592571150095 (by omega) (by decide), ?_⟩
 obtain ⟨u, hu1⟩ : ∃ u, u = oc3 z := ⟨_, rfl⟩
 rw [show (z / 2 ^ 4 + z) &&& 1085102592571150095 = u from hu1.symm]
 rw [← hu1] at h3 h4 h5 h6 ⊢
 repeat' ((try conv => whnf); first|refine aq bd ?_|fail)
 refine ⟨_, shr64 u 8 (by decide), ?_⟩
 skip
 refine ⟨_, add64 _ _ (by omega), ?_⟩
 obtain ⟨v, hv1⟩ : ∃ v, v = oc4 u := ⟨_, rfl⟩
 rw [show u + u / 2 ^ 8 = v from hv1.symm]
 rw [← hv1] at h4 h5 h6 ⊢
 repeat' ((try conv => whnf); first|refine aq bd ?_|fail)
 refine ⟨_, shr64 v 16 (by decide), ?_⟩
 skip
 refine ⟨_, add64 _ _ (by omega), ?_⟩
 obtain ⟨s, hs1⟩ : ∃ s, s = oc5 v := ⟨_, rfl⟩
 rw [show v + v / 2 ^ 16 = s from hs1.symm]
 rw [← hs1] at h5 h6 ⊢
 repeat' ((try conv => whnf); first|refine aq bd ?_|fail)
 refine ⟨_, shr64 s 32 (by decide), ?_⟩
 skip
 refine ⟨_, add64 _ _ (by omega), ?_⟩
 obtain ⟨t, ht1⟩ : ∃ t, t = oc6 s := ⟨_, rfl⟩
 rw [show s + s / 2 ^ 32 = t from ht1.symm]
 rw [← ht1] at h6 ⊢
 repeat' ((try conv => whnf); first|refine s4 nm ?_|fail)
 refine ⟨_, and_i64 t 127 (by omega) (by decide), ?_⟩
 skip
 exact PSub.refl _
theorem ones_spec (x : Nat) (hx : x < 64) : PSpec Tryd.prog 33 [.val (.int .u64 x)] (.int ((mb x).length : Nat)) := by
 have q := ones64_spec x hx
 refine PSpec.of_vc (fun Γ => more8 false Γ.P Γ.fx) (fun Γ => more8_ok) Tryd.func33 rfl Tryd.call33 (by simp) ?_
 rintro ⟨P, N, w0, X, β0, fx, y, hy, pk, df⟩ rfl rfl rfl hoff rfl; change y.on = false at hoff
 skip
 refine .inl ⟨_, q, ?_⟩
 skip
 exact PSub.refl _
theorem tzU_spec (x : Nat) (hx : x < 18446744073709551616) : PSpec Tryd.prog 46 [.val (.int .u64 x)] (.int (Lib.ctz 64 x : Nat)) := by
 have q := tz_spec x hx
 refine PSpec.of_vc (fun Γ => more8 false Γ.P Γ.fx) (fun Γ => more8_ok) Tryd.func46 rfl Tryd.call46 (by simp) ?_
 rintro ⟨P, N, w0, X, β0, fx, y, hy, pk, df⟩ rfl rfl rfl hoff rfl; change y.on = false at hoff
 skip
 refine .inl ⟨_, q, ?_⟩
 skip
 exact PSub.refl _
theorem len64_spec (x : Nat) (hx : x < 64) : PSpec Tryd.prog 53 [.val (.int .u64 x)] (.int (lenB x : Nat)) := by
 obtain ⟨h1, h2, _⟩ := lenB_tab x hx
 have e1 : IntKind.u8.wrap ((x : Nat) : Int) = (x : Nat) := wraps_u8 _ (by omega) (by omega)
 obtain ⟨c, hc⟩ : ∃ c, c = UInt8.ofNat (lenB x) := ⟨_, rfl⟩
 refine PSpec.of_vc (fun Γ => more8 false Γ.P Γ.fx) (fun Γ => more8_ok) Tryd.func53 rfl Tryd.call53 (by simp) ?_
 rintro ⟨P, N, w0, X, β0, fx, y, hy, pk, df⟩ rfl rfl rfl hoff rfl; change y.on = false at hoff
 repeat' ((try conv => whnf); first|(first|refine k3 ?_ ?_|refine k4 ?_ ?_) <;> intro hb <;> (try rw [lM] at hb) <;> try (exfalso; omega)|fail)
 refine ⟨_, e1, ?_⟩
 repeat' ((try conv => whnf); first|refine aq bd ?_|fail)
 refine ⟨_, lentab (by decide +kernel) x hx, ?_⟩
 rw [← hc] at h1 ⊢
 repeat' ((try conv => whnf); first|refine s1 ?_|refine s4 nm ?_|fail)
 exact PSub.val_int (by omega)
theorem len_spec (x : Nat) (hx : x < 64) : PSpec Tryd.prog 47 [.val (.int .u64 x)] (.int (lenB x : Nat)) := by
 have q := len64_spec x hx
 refine PSpec.of_vc (fun Γ => more8 false Γ.P Γ.fx) (fun Γ => more8_ok) Tryd.func47 rfl Tryd.call47 (by simp) ?_
 rintro ⟨P, N, w0, X, β0, fx, y, hy, pk, df⟩ rfl rfl rfl hoff rfl; change y.on = false at hoff
 skip
 refine .inl ⟨_, q, ?_⟩
 skip
 exact PSub.refl _
end Go.Proofs.YthldjgjpokjliaaDoor
/- Schedules: the members of a set, which of two lists comes first, and whether a set has too few copies. Conditions: none. -/
namespace Go.Proofs.YthldjgjpokjliaaDoor
open Go.Avc
def mbT (m i : Nat) : List Nat := (List.range i).filter fun j => m.testBit j
theorem mbT_next (m i : Nat) : mbT m (i + 1) = if m.testBit i then mbT m i ++ [i] else mbT m i := by
 unfold mbT
 rw [List.range_succ, List.filter_append, List.filter_cons, List.filter_nil]
 split <;> simp
theorem mbT_len (m i : Nat) : (mbT m i).length ≤ i := by
 have := List.length_filter_le (fun j => m.testBit j) (List.range i)
 simpa [mbT] using this
theorem bit_and (m i : Nat) : (m / 2 ^ i &&& 1) = if m.testBit i then 1 else 0 := by
 rw [Nat.and_one_is_mod, Nat.testBit_eq_decide_div_mod_eq]
 by_cases h : m / 2 ^ i % 2 = 1
 · rw [h]; simp
 · have : m / 2 ^ i % 2 = 0 := by omega
   rw [this]; simp
def cmpN : List Nat → List Nat → Int
 | [], [] => 0
 | [], _ :: _ => -1
 | _ :: _, [] => 1
 | a :: l, b :: m => if a < b then -1 else if b < a then 1 else cmpN l m
theorem cmpN_lex : ∀ {l m : List Nat}, l.length = m.length → (cmpN l m < 0 ↔ lexN l m)
 | [], [], _ => by simp [cmpN, lexN]
 | a :: l, b :: m, h => by
   have ih := cmpN_lex (l := l) (m := m) (by simpa using h)
   unfold cmpN lexN
   by_cases h1 : a < b
   · rw [if_pos h1]; exact ⟨fun _ => .inl h1, fun _ => by decide⟩
   · rw [if_neg h1]
     by_cases h2 : b < a
     · rw [if_pos h2]
       exact ⟨fun h => absurd h (by decide), fun h => by rcases h with h | ⟨h, _⟩ <;> omega⟩
     · rw [if_neg h2, ih]
       exact ⟨fun h => .inr ⟨by omega, h⟩, fun h => by rcases h with h | ⟨_, h⟩; omega; exact h⟩
theorem cmpN_drop {l m : List Nat} {i : Nat} (h1 : i < l.length) (h2 : i < m.length) : cmpN (l.drop i) (m.drop i) = if l.getD i 0 < m.getD i 0 then -1 else if m.getD i 0 < l.getD i 0 then 1 else cmpN (l.drop (i + 1)) (m.drop (i + 1)) := by
 rw [List.drop_eq_getElem_cons h1, List.drop_eq_getElem_cons h2, getD_at h1, getD_at h2]
 rfl
def sgn (a b : Nat) : Int := if a < b then -1 else if b < a then 1 else 0
attribute [local irreducible] PSub Wp PSpec Le Need Both
theorem members_spec (m : Nat) (hm : m < 64) : PSpec Tryd.prog 35 [.int m] (encIs (natI (mb m))) := by
 obtain ⟨_, hl6, hmb⟩ := lenB_tab m hm
 have q := len_spec m hm
 have ew : IntKind.u64.wrap ((m : Nat) : Int) = (m : Nat) := by rw [wrap_u64]; omega
 refine PSpec.of_vc (fun Γ => more8 false Γ.P Γ.fx) (fun Γ => more8_ok) Tryd.func35 rfl Tryd.call35 (by simp) ?_
 rintro ⟨P, N, w0, X, β0, fx, y, hy, pk, df⟩ rfl rfl rfl hoff rfl; change y.on = false at hoff
 skip
 refine ⟨_, ew, ?_⟩
 skip
 refine .inl ⟨_, q, ?_⟩
 skip
 refine Wp.loop (fun i : Nat => ⟨[(0, .int m), (2, .lsl 300 0 (mbT m i).length), (6, .int (lenB m)), (7, .int i)], [(300, some (.row 1 ((natI (mbT m i)).map fun x => [PV.int x])))], [300]⟩) (fun i => i ≤ lenB m) (fun i => lenB m - i) 0
   (Le.trans (Le.virt (k := 300) (sz := 1) rfl rfl (by omega)) (Le.of ?_ ?_ rfl rfl rfl)) (Nat.zero_le _) ?_
 · (repeat' (first|exact trivial|refine aq ?_ ?_|exact oq|exact l6 rfl|fail))
 · (repeat' (first|exact trivial|exact rfl|refine aq ?_ ?_|fail))
 rintro i hi
 have hlen := mbT_len m i
 have lM : ((natI (mbT m i)).map fun x => [PV.int x]).length = (mbT m i).length := by rw [List.length_map, natI_len]
 have lN : (natI (mbT m i)).length = (mbT m i).length := natI_len _
 by_cases hi2 : i < lenB m
 · have hnx := mbT_next m i
   have e1 := shr_nat m i 64 (by omega)
   have e2 := and_i64 (m / 2 ^ i) 1 (Nat.lt_of_le_of_lt (Nat.div_le_self _ _) (by omega)) (by decide)
   rw [bit_and] at e2
   cases hb : m.testBit i with
   | true =>
     rw [hb, if_pos rfl] at hnx e2
     have ht : (natI (mbT m (i + 1))).map (fun x => [PV.int x]) = (natI (mbT m i)).map (fun x => [PV.int x]) ++ [[PV.int i]] := by rw [hnx]; simp [natI]
     have ht2 : (mbT m (i + 1)).length = (mbT m i).length + 1 := by rw [hnx]; simp
     refine code_sound (more := more8 false _ _) more8_ok FOK.wide _ ?_
     repeat' ((try conv => whnf); first|(first|refine k3 ?_ ?_|refine k4 ?_ ?_) <;> intro hb <;> (try rw [lM] at hb) <;> try (exfalso; omega)|refine aq bd ?_|fail)
     refine ⟨_, e1, ?_⟩
     skip
     refine ⟨_, e2, ?_⟩
     repeat' ((try conv => whnf); first|refine s4 nm ?_|refine aq bd ?_|fail)
     refine ⟨i + 1, Le.map [(300, 18)] ?_ ?_ rfl rfl rfl rfl, by omega, by omega⟩
     · rw [ht, ht2]
       (repeat' (first|exact trivial|refine aq ?_ ?_|exact oq|exact SubA.lsl ls|fail))
     · rw [ht, ht2]
       (repeat' (first|exact trivial|exact rfl|refine aq ?_ ?_|fail))
   | false =>
     rw [hb, if_neg (by simp)] at hnx e2
     refine code_sound (more := more8 false _ _) more8_ok FOK.wide _ ?_
     repeat' ((try conv => whnf); first|(first|refine k3 ?_ ?_|refine k4 ?_ ?_) <;> intro hb <;> (try rw [lM] at hb) <;> try (exfalso; omega)|refine aq bd ?_|fail)
     refine ⟨_, e1, ?_⟩
     skip
     refine ⟨_, e2, ?_⟩
     repeat' ((try conv => whnf); first|refine s4 nm ?_|fail)
     refine ⟨i + 1, Le.of ?_ ?_ rfl rfl rfl, by omega, by omega⟩
     · rw [hnx]
       (repeat' (first|exact trivial|refine aq ?_ ?_|exact oq|fail))
     · rw [hnx]
       (repeat' (first|exact trivial|exact rfl|refine aq ?_ ?_|fail))
 · have e : i = lenB m := by omega
   subst e
   rw [hmb]
   refine code_sound (more := more8 false _ _) more8_ok FOK.wide _ ?_
   repeat' ((try conv => whnf); first|(first|refine k3 ?_ ?_|refine k4 ?_ ?_) <;> intro hb <;> (try rw [lM] at hb) <;> try (exfalso; omega)|fail)
   exact sub_sl (by rw [List.drop_zero, List.take_of_length_le (by rw [lM]; exact Nat.le_refl _)]; rfl)
theorem isNaN_spec (x : Int) : PSpec Tryd.prog 54 [.int x] (.bool false) := by
 refine PSpec.of_vc (fun Γ => more8 false Γ.P Γ.fx) (fun Γ => more8_ok) Tryd.func54 rfl Tryd.call54 (by simp) ?_
 rintro ⟨P, N, w0, X, β0, fx, y, hy, pk, df⟩ rfl rfl rfl hoff rfl; change y.on = false at hoff
 skip
 exact sub_bool (by simp)
theorem cmp_spec (a b : Nat) : PSpec Tryd.prog 48 [.int a, .int b] (.int (sgn a b)) := by
 have q1 := isNaN_spec a
 have q2 := isNaN_spec b
 unfold sgn
 refine PSpec.of_vc (fun Γ => more8 false Γ.P Γ.fx) (fun Γ => more8_ok) Tryd.func48 rfl Tryd.call48 (by simp) ?_
 rintro ⟨P, N, w0, X, β0, fx, y, hy, pk, df⟩ rfl rfl rfl hoff rfl; change y.on = false at hoff
 skip
 refine .inl ⟨_, q1, ?_⟩
 skip
 refine .inl ⟨_, q2, ?_⟩
 repeat' ((try conv => whnf); first|(first|refine k3 ?_ ?_|refine k4 ?_ ?_) <;> intro hb <;> (try rw [lM] at hb) <;> try (exfalso; omega)|fail)
 · exact PSub.val_int (by rw [if_pos (by omega)])
 · exact PSub.val_int (by rw [if_neg (by omega), if_pos (by omega)])
 · exact PSub.val_int (by rw [if_neg (by omega), if_neg (by omega)])
theorem compare_spec (l m : List Nat) (hl : l.length ≤ 1000) (hm : m.length ≤ 1000) : PSpec Tryd.prog 36 [encIs (natI l), encIs (natI m)] (.int (cmpN l m)) := by
 have l1' : ((natI l).map fun x => [PV.int x]).length = l.length := by rw [List.length_map, natI_len]
 have l2' : ((natI m).map fun x => [PV.int x]).length = m.length := by rw [List.length_map, natI_len]
 have l3' : (natI l).length = l.length := natI_len l
 have l4' : (natI m).length = m.length := natI_len m
 refine PSpec.of_vc (fun Γ => more8 false Γ.P Γ.fx) (fun Γ => more8_ok) Tryd.func36 rfl Tryd.call36 (by simp) ?_
 rintro ⟨P, N, w0, X, β0, fx, y, hy, pk, df⟩ rfl rfl rfl hoff rfl; change y.on = false at hoff
 skip
 refine Wp.loop (fun i : Nat => ⟨[(0, .pure (encIs (natI l))), (1, .pure (encIs (natI m))), (9, .pure (encIs (natI l))), (10, .int l.length), (11, .int i)], [], []⟩) (fun i => i ≤ l.length ∧ i ≤ m.length ∧ cmpN (l.drop i) (m.drop i) = cmpN l m) (fun i => l.length - i) 0
   (Le.of ?_ ?_ rfl rfl rfl) ⟨Nat.zero_le _, Nat.zero_le _, rfl⟩ ?_
 · (repeat' (first|exact trivial|refine aq ?_ ?_|exact oq|exact l1 bd|fail))
 · (repeat' (first|exact trivial|fail))
 rintro i ⟨hi, hi3, hc⟩
 by_cases hi2 : i < l.length
 · by_cases hi4 : i < m.length
   · have x1 := natI_get (w := l) (k := i) (by omega)
     have x2 := natI_get (w := m) (k := i) (by omega)
     have q0 := cmp_spec (l.getD i 0) (m.getD i 0)
     have q : PSpec Tryd.prog 48 [.int ((natI l)[i]'(by omega)), .int ((natI m)[i]'(by omega))] (.int (sgn (l.getD i 0) (m.getD i 0))) := by rw [x1, x2]; exact q0
     rw [cmpN_drop hi2 hi4] at hc
     unfold sgn at q
     by_cases h1 : l.getD i 0 < m.getD i 0
     · rw [if_pos h1] at q hc
       rw [← hc]
       refine code_sound (more := more8 false _ _) more8_ok FOK.wide _ ?_
       repeat' ((try conv => whnf); first|(first|refine k3 ?_ ?_|refine k4 ?_ ?_) <;> intro hb <;> (try rw [lM] at hb) <;> try (exfalso; omega)|refine s5 nm nm ?_|fail)
       refine .inl ⟨_, q, ?_⟩
       skip
       exact PSub.refl _
     by_cases h2 : m.getD i 0 < l.getD i 0
     · rw [if_neg h1, if_pos h2] at q hc
       rw [← hc]
       refine code_sound (more := more8 false _ _) more8_ok FOK.wide _ ?_
       repeat' ((try conv => whnf); first|(first|refine k3 ?_ ?_|refine k4 ?_ ?_) <;> intro hb <;> (try rw [lM] at hb) <;> try (exfalso; omega)|refine s5 nm nm ?_|fail)
       refine .inl ⟨_, q, ?_⟩
       skip
       exact PSub.refl _
     rw [if_neg h1, if_neg h2] at q hc
     refine code_sound (more := more8 false _ _) more8_ok FOK.wide _ ?_
     repeat' ((try conv => whnf); first|(first|refine k3 ?_ ?_|refine k4 ?_ ?_) <;> intro hb <;> (try rw [lM] at hb) <;> try (exfalso; omega)|refine s5 nm nm ?_|fail)
     refine .inl ⟨_, q, ?_⟩
     repeat' ((try conv => whnf); first|refine s4 nm ?_|fail)
     exact ⟨i + 1, Le.of (by (repeat' (first|exact trivial|refine aq ?_ ?_|exact oq|fail))) (by (repeat' (first|exact trivial|fail))) rfl rfl rfl, ⟨by omega, by omega, hc⟩, by omega⟩
   · rw [← hc, List.drop_eq_getElem_cons hi2, List.drop_of_length_le (by omega : m.length ≤ i)]
     refine code_sound (more := more8 false _ _) more8_ok FOK.wide _ ?_
     repeat' ((try conv => whnf); first|(first|refine k3 ?_ ?_|refine k4 ?_ ?_) <;> intro hb <;> (try rw [lM] at hb) <;> try (exfalso; omega)|refine s5 nm nm ?_|fail)
     exact PSub.refl _
 · have e : i = l.length := by omega
   subst e
   rw [← hc, List.drop_of_length_le (Nat.le_refl l.length)]
   by_cases h5 : l.length < m.length
   · rw [List.drop_eq_getElem_cons h5]
     refine code_sound (more := more8 false _ _) more8_ok FOK.wide _ ?_
     repeat' ((try conv => whnf); first|(first|refine k3 ?_ ?_|refine k4 ?_ ?_) <;> intro hb <;> (try rw [lM] at hb) <;> try (exfalso; omega)|fail)
     exact PSub.refl _
   · rw [List.drop_of_length_le (by omega : m.length ≤ l.length)]
     refine code_sound (more := more8 false _ _) more8_ok FOK.wide _ ?_
     repeat' ((try conv => whnf); first|(first|refine k3 ?_ ?_|refine k4 ?_ ?_) <;> intro hb <;> (try rw [lM] at hb) <;> try (exfalso; omega)|fail)
     exact PSub.refl _
end Go.Proofs.YthldjgjpokjliaaDoor
/- Schedules: whether a set of needs has too few copies. Conditions: none. -/
namespace Go.Proofs.YthldjgjpokjliaaDoor
open Go.Avc
def sumTo (f : Nat → Nat) : Nat → Nat
 | 0 => 0
 | n + 1 => sumTo f n + f n
theorem sumTo_eq {f g : Nat → Nat} : ∀ n, (∀ q, q < n → f q = g q) → sumTo f n = sumTo g n
 | 0, _ => rfl
 | n + 1, h => by
   unfold sumTo
   rw [sumTo_eq n fun q hq => h q (by omega), h n (Nat.lt_succ_self n)]
theorem sumTo_one {f g : Nat → Nat} {k : Nat} : ∀ n, k < n → (∀ q, q < n → q ≠ k → f q = g q) → sumTo f n + g k = sumTo g n + f k
 | 0, h, _ => absurd h (Nat.not_lt_zero _)
 | n + 1, h, hq => by
   unfold sumTo
   by_cases e : k = n
   · subst e
     rw [sumTo_eq k fun q h1 => hq q (by omega) (by omega)]
     omega
   · have ih := sumTo_one (f := f) (g := g) (k := k) n (by omega) fun q h1 h2 => hq q (by omega) h2
     rw [hq n (Nat.lt_succ_self n) (Ne.symm e)]
     omega
def cpG (cp : List Nat) (R r : Nat) : Nat := if R.testBit r then cp.getD r 0 else 0
def cpB (cp : List Nat) (R : Nat) : Nat := sumTo (cpG cp R) 64
theorem cpB_zero (cp : List Nat) : cpB cp 0 = 0 := by
 have : ∀ n, sumTo (cpG cp 0) n = 0 := fun n => by
   induction n with
   | zero => rfl
   | succ n ih => unfold sumTo; rw [ih]; unfold cpG; rw [Nat.zero_testBit]; rfl
 exact this 64
theorem cpB_clear {cp : List Nat} {R : Nat} (h0 : R ≠ 0) (hR : R < 18446744073709551616) : cpB cp R = cpB cp (R &&& (R - 1)) + cp.getD (Lib.ctz 64 R) 0 := by
 obtain ⟨c1, c2, _⟩ := ctz_bit h0 hR
 have hcl := clear_bit h0 hR
 have h := sumTo_one (f := cpG cp R) (g := cpG cp (R &&& (R - 1))) (k := Lib.ctz 64 R) 64 c1 fun q _ hq => by
   unfold cpG
   rw [hcl, decide_eq_true hq, Bool.and_true]
 have e1 : cpG cp R (Lib.ctz 64 R) = cp.getD (Lib.ctz 64 R) 0 := by unfold cpG; rw [c2]; rfl
 have e2 : cpG cp (R &&& (R - 1)) (Lib.ctz 64 R) = 0 := by unfold cpG; rw [hcl]; simp
 rw [e1, e2] at h
 unfold cpB
 omega
theorem cpB_bd {cp : List Nat} (hcb : ∀ r, cp.getD r 0 ≤ 1000) (R : Nat) : cpB cp R ≤ 64000 := by
 have : ∀ n, sumTo (cpG cp R) n ≤ 1000 * n := fun n => by
   induction n with
   | zero => exact Nat.le_refl _
   | succ n ih =>
     unfold sumTo
     have : cpG cp R n ≤ 1000 := by unfold cpG; split; exact hcb n; omega
     omega
 exact this 64
def unM (ms w : List Nat) : Nat := w.foldl (fun a k => a ||| ms.getD k 0) 0
theorem unM_fold (ms : List Nat) (r : Nat) : ∀ (w : List Nat) (a : Nat), (w.foldl (fun a k => a ||| ms.getD k 0) a).testBit r = (a.testBit r || w.any fun k => (ms.getD k 0).testBit r)
 | [], a => by simp
 | k :: w, a => by rw [List.foldl_cons, unM_fold ms r w, or_bit, List.any_cons, Bool.or_assoc]
theorem unM_bit (ms w : List Nat) (r : Nat) : (unM ms w).testBit r = w.any fun k => (ms.getD k 0).testBit r := by
 unfold unM
 rw [unM_fold, Nat.zero_testBit, Bool.false_or]
theorem mb_iff {m k : Nat} : k ∈ mb m ↔ k < 6 ∧ m.testBit k = true := by
 unfold mb
 rw [List.mem_filter, List.mem_range]
theorem bit64 {x q : Nat} (hx : x < 64) (h : x.testBit q = true) : q < 6 := by
 rcases Nat.lt_or_ge q 6 with h1 | h1
 · exact h1
 · have := Nat.testBit_lt_two_pow (x := x) (i := q) (Nat.lt_of_lt_of_le hx (show 2 ^ 6 ≤ 2 ^ q from Nat.pow_le_pow_right (by decide) h1))
   rw [h] at this; cases this
def unP (ms : List Nat) (m x R : Nat) : Prop := ∀ r, R.testBit r = (mb m).any fun k => !x.testBit k && (ms.getD k 0).testBit r
theorem unP_next {ms : List Nat} {m x R : Nat} (h0 : x ≠ 0) (hx : x < 64) (hxm : bitsIn x m) (h : unP ms m x R) : unP ms m (x &&& (x - 1)) (R ||| ms.getD (Lib.ctz 64 x) 0) := fun r => by
 have hx2 : x < 18446744073709551616 := by omega
 obtain ⟨c1, c2, _⟩ := ctz_bit h0 hx2
 rw [or_bit, h r, Bool.eq_iff_iff, Bool.or_eq_true, List.any_eq_true, List.any_eq_true]
 constructor
 · rintro (⟨k, hk, h1⟩ | h1)
   · refine ⟨k, hk, ?_⟩
     rw [Bool.and_eq_true] at h1 ⊢
     refine ⟨?_, h1.2⟩
     rw [clear_bit h0 hx2]
     have : x.testBit k = false := by simpa using h1.1
     rw [this]; rfl
   · refine ⟨Lib.ctz 64 x, mb_iff.2 ⟨bit64 hx c2, hxm _ c2⟩, ?_⟩
     rw [clear_bit h0 hx2, h1]
     simp
 · rintro ⟨k, hk, h1⟩
   rw [Bool.and_eq_true, clear_bit h0 hx2] at h1
   by_cases e : k = Lib.ctz 64 x
   · right; rw [← e]; exact h1.2
   · left
     refine ⟨k, hk, ?_⟩
     rw [Bool.and_eq_true]
     refine ⟨?_, h1.2⟩
     have := h1.1
     rw [decide_eq_true e, Bool.and_true] at this
     exact this
theorem unP_last {ms : List Nat} {m R : Nat} (h : unP ms m 0 R) : R = unM ms (mb m) := Nat.eq_of_testBit_eq fun r => by
 rw [h r, unM_bit]
 congr 1
 funext k
 rw [Nat.zero_testBit]; rfl
attribute [local irreducible] PSub Wp PSpec Le Need Both
theorem few_spec (cp ms : List Nat) (m : Nat) (hm : m < 64) (hmk : ∀ k ∈ mb m, k < ms.length) (hmsl : ms.length ≤ 1000) (hmsb : ∀ i, ms.getD i 0 < 18446744073709551616) (hcp : cp.length = 64) (hcb : ∀ r, cp.getD r 0 ≤ 1000) :
   PSpec Tryd.prog 34 [.ptr (planC cp ms), .int m] (.bool (decide ((cpB cp (unM ms (mb m)) : Int) < (mb m).length))) := by
 have lM : (ms.map fun m : Nat => [PV.val (.int .u64 (m : Int))]).length = ms.length := List.length_map ..
 have hnth : nth (pures (dropN 64 (planC cp ms))) 0 = some (.pure (encMs ms)) := by
   rw [dropN_eq]
   unfold planC
   rw [List.drop_append_of_le_length (by simp [hcp]), List.drop_of_length_le (by simp [hcp])]
   rfl
 have ew : IntKind.u64.wrap ((m : Nat) : Int) = (m : Nat) := by rw [wrap_u64]; omega
 have qo := ones_spec m hm
 refine PSpec.of_vc (fun Γ => more8 false Γ.P Γ.fx) (fun Γ => more8_ok) Tryd.func34 rfl Tryd.call34 (by simp) ?_
 rintro ⟨P, N, w0, X, β0, fx, y, hy, pk, df⟩ rfl rfl rfl hoff rfl; change y.on = false at hoff
 skip
 refine ⟨_, ew, ?_⟩
 skip
 refine Wp.loop (fun xr : Nat × Nat => ⟨[(0, .pure (.ptr (planC cp ms))), (1, .int m), (5, .pure (.val (.int .u64 (xr.2 : Nat)))), (6, .pure (.val (.int .u64 (xr.1 : Nat))))], [], []⟩)
   (fun xr => xr.1 < 64 ∧ bitsIn xr.1 m ∧ xr.2 < 18446744073709551616 ∧ unP ms m xr.1 xr.2) (fun xr => xr.1) (m, 0)
   (Le.of ?_ ?_ rfl rfl rfl) ⟨hm, bitsIn.refl m, Nat.zero_lt_succ _, fun r => by
     rw [Nat.zero_testBit]
     symm
     refine List.any_eq_false.2 fun k hk => ?_
     rw [(mb_iff.1 hk).2]; simp⟩ ?_
 · (repeat' (first|exact trivial|refine aq ?_ ?_|exact oq|fail))
 · (repeat' (first|exact trivial|fail))
 rintro ⟨x, R⟩ ⟨hx, hxm, hR, hu⟩
 simp only at hx hxm hR hu ⊢
 by_cases h0 : x = 0
 · subst h0
   obtain rfl := unP_last hu
   obtain ⟨R0, hR0⟩ : ∃ R0, R0 = unM ms (mb m) := ⟨_, rfl⟩
   rw [← hR0] at hR ⊢
   have hb0 := cpB_bd hcb R0
   obtain ⟨n, hn⟩ : ∃ n, n = (mb m).length := ⟨_, rfl⟩
   have hn6 : n ≤ 6 := by rw [hn]; have := List.length_filter_le (fun j => m.testBit j) (List.range 6); simpa [mb] using this
   rw [← hn] at qo ⊢
   refine code_sound (more := more8 false _ _) more8_ok FOK.wide _ ?_
   skip
   refine ⟨_, ew, ?_⟩
   skip
   refine .inl ⟨_, qo, ?_⟩
   skip
   refine Wp.loop (fun y : Nat => ⟨[(0, .pure (.ptr (planC cp ms))), (5, .pure (.val (.int .u64 (y : Nat)))), (7, .int ((n : Int) - cpB cp R0 + cpB cp y))], [], []⟩) (fun y => y < 18446744073709551616) (fun y => y) R0
     (Le.of ?_ ?_ rfl rfl rfl) hR ?_
   · (repeat' (first|exact trivial|refine aq ?_ ?_|exact oq|exact l1 bd|fail))
   · (repeat' (first|exact trivial|fail))
   rintro y hy
   by_cases hy0 : y = 0
   · subst hy0
     rw [cpB_zero]
     refine code_sound (more := more8 false _ _) more8_ok FOK.wide _ ?_
     skip
     exact PSub.val_bool (decide_eq_decide.2 ⟨fun h => by omega, fun h => by omega⟩)
   · have hcl := cpB_clear (cp := cp) hy0 hy
     have hbd := cpB_bd hcb y
     have qz := tz_spec y hy
     obtain ⟨c1, _, _⟩ := ctz_bit hy0 hy
     obtain ⟨r, hr⟩ : ∃ r, r = Lib.ctz 64 y := ⟨_, rfl⟩
     rw [← hr] at hcl qz c1
     have hcr := hcb r
     have e3 : IntKind.u64.wrap ((y : Int) - 1) = ((y - 1 : Nat) : Int) := by rw [wrap_u64]; omega
     have e4 := bits_and_u64_nat y (y - 1) hy (by omega)
     have hval : (n : Int) - cpB cp R0 + cpB cp y - (cp.getD r 0 : Nat) = (n : Int) - cpB cp R0 + cpB cp (y &&& (y - 1)) := by omega
     obtain ⟨v, hv⟩ : ∃ v, v = (n : Int) - cpB cp R0 + cpB cp y := ⟨_, rfl⟩
     rw [← hv] at hval ⊢
     have hvb : -100000 ≤ v ∧ v ≤ 100000 := by omega
     refine code_sound (more := more8 false _ _) more8_ok FOK.wide _ ?_
     repeat' ((try conv => whnf); first|(first|refine k3 ?_ ?_|refine k4 ?_ ?_) <;> intro hb <;> (try rw [lM] at hb) <;> try (exfalso; omega)|fail)
     refine Wp.draw (more := more8 true _ _) more8_det more8_ok FOK.wide rfl (by decide +kernel) (by conv => lhs; reduce) ?_
     skip
     refine ⟨_, qz, ?_⟩
     repeat' ((try conv => whnf); first|refine aq bd ?_|fail)
     conv => whnf
     refine match_some (planC_at (cp := cp) (ms := ms) (r := r) (by omega)) ?_
     repeat' ((try conv => whnf); first|refine s4 nm ?_|fail)
     refine ⟨_, e3, ?_⟩
     skip
     refine ⟨_, e4, ?_⟩
     skip
     refine ⟨y &&& (y - 1), Le.of ?_ (by (repeat' (first|exact trivial|fail))) rfl rfl rfl, Nat.lt_of_le_of_lt Nat.and_le_left hy, ?_⟩
     · rw [← hval]
       (repeat' (first|exact trivial|refine aq ?_ ?_|exact oq|fail))
     · exact Nat.lt_of_le_of_lt Nat.and_le_right (by omega)
 · have hx2 : x < 18446744073709551616 := by omega
   obtain ⟨c1, c2, _⟩ := ctz_bit h0 hx2
   have hnx := unP_next h0 hx hxm hu
   have qz := tzU_spec x hx2
   have hcl := clear_bit h0 hx2
   have hk := hmk _ (mb_iff.2 ⟨bit64 hx c2, hxm _ c2⟩)
   obtain ⟨k, hkd⟩ : ∃ k, k = Lib.ctz 64 x := ⟨_, rfl⟩
   rw [← hkd] at c1 c2 hnx qz hk
   have hkg : ms.getD k 0 = ms[k] := getD_at hk 0
   have e3 : IntKind.u64.wrap ((x : Int) - 1) = ((x - 1 : Nat) : Int) := by rw [wrap_u64]; omega
   have e4 := bits_and_u64_nat x (x - 1) hx2 (by omega)
   have hmk2 := hmsb k
   rw [hkg] at hmk2 hnx
   have e5 := bits_or_u64_nat R ms[k] hR hmk2
   refine code_sound (more := more8 false _ _) more8_ok FOK.wide _ ?_
   repeat' ((try conv => whnf); first|(first|refine k3 ?_ ?_|refine k4 ?_ ?_) <;> intro hb <;> (try rw [lM] at hb) <;> try (exfalso; omega)|fail)
   refine Wp.draw (more := more8 true _ _) more8_det more8_ok FOK.wide rfl (by decide +kernel) (by conv => lhs; reduce) ?_
   skip
   conv => whnf
   refine match_some hnth ?_
   skip
   refine ⟨_, qz, ?_⟩
   repeat' ((try conv => whnf); first|refine s5 nm nm ?_|fail)
   refine ⟨_, e5, ?_⟩
   skip
   refine ⟨_, e3, ?_⟩
   skip
   refine ⟨_, e4, ?_⟩
   skip
   refine ⟨(x &&& (x - 1), R ||| ms[k]), Le.of (by (repeat' (first|exact trivial|refine aq ?_ ?_|exact oq|fail))) (by (repeat' (first|exact trivial|fail))) rfl rfl rfl, ⟨Nat.lt_of_le_of_lt Nat.and_le_left hx, fun q hq => ?_, or_lt hR hmk2, hnx⟩, ?_⟩
   · have hq : (x &&& (x - 1)).testBit q = true := hq
     rw [hcl] at hq
     exact hxm q (Bool.and_eq_true_iff.1 hq).1
   · show x &&& (x - 1) < x
     exact Nat.lt_of_le_of_lt Nat.and_le_right (by omega)
end Go.Proofs.YthldjgjpokjliaaDoor
