/- Digest: padding and Sum, in the reference. Conditions: none. -/
import Derived.Test.YtjfjpnefohbobaaGreatDoorWd
import Derived.Test.YtjfjpnefohbobaaGreatDoorWi
import Derived.Test.YtjfjpnefohbobaaGreatDoorWf
set_option linter.unusedSimpArgs false
set_option linter.unusedVariables false
set_option maxRecDepth 20000
set_option maxHeartbeats 4000000
namespace Go.Proofs.YtjfjpnefohbobaaGreatDoor
open Go.Avc
def padK (b : List UInt8) (k : Nat) : List UInt8 := b ++ 128 :: List.replicate k 0
theorem padK_len (b : List UInt8) (k : Nat) : (padK b k).length = b.length + 1 + k := by simp [padK]; omega
theorem padK_next (b : List UInt8) (k : Nat) : padK b (k + 1) = padK b k ++ [0] := by simp [padK, List.replicate_succ']
def padB (b : List UInt8) (k : Nat) : List UInt8 := padK b (padN b.length) ++ (be8 (8 * b.length)).take k
theorem padB_len (b : List UInt8) (k : Nat) (h : k ≤ 8) : (padB b k).length = b.length + 1 + padN b.length + k := by simp [padB, padK_len, be8_len]; omega
theorem be8_get (n k : Nat) (h : k < 8) : (be8 n)[k]'(by rw [be8_len]; exact h) = UInt8.ofNat (n / 256 ^ (7 - k) % 256) := by simp [be8]
theorem padB_next (b : List UInt8) (k : Nat) (h : k < 8) : padB b (k + 1) = padB b k ++ [UInt8.ofNat (8 * b.length / 256 ^ (7 - k) % 256)] := by
 unfold padB
 rw [List.take_succ_eq_append_getElem (by rw [be8_len]; exact h), be8_get _ _ h, List.append_assoc]
theorem padB_zero (b : List UInt8) : padB b 0 = padK b (padN b.length) := by simp [padB]
theorem padB_all (b : List UInt8) : padB b 8 = padded b := by
 unfold padB padded padK
 rw [List.take_of_length_le (by rw [be8_len]; exact Nat.le_refl _)]
 simp
theorem padN_lt (n : Nat) : padN n < 64 := Nat.mod_lt _ (by decide)
theorem shr_bytes (m i : Nat) (h : i ≤ 7) (x : Int) (hx : x = 8 * (i : Int)) : (m : Int).fdiv (2 ^ (min x.toNat IntKind.u64.bits)) = ((m / 256 ^ i : Nat) : Int) := by
 have e := shr_nat m (8 * i) 64 (by omega)
 rw [Int.toNat_natCast] at e
 rw [hx, show (8 * (i : Int)).toNat = 8 * i by omega, show IntKind.u64.bits = 64 from rfl, e, show (256 : Nat) = 2 ^ 8 from rfl, ← Nat.pow_mul]
theorem wrap_byte (m : Nat) : IntKind.u8.wrap (m : Int) = ((UInt8.ofNat (m % 256)).toNat : Int) := by
 rw [IntKind.wrap_u8, u8_ofNat (Nat.mod_lt _ (by decide))]
 omega
attribute [local irreducible] PSub Wp PSpec Le Need Both
attribute [local irreducible] padK padB be8 padN padded
theorem padded_spec (b : List UInt8) (hb0 : b.length ≤ 1000000) : PSpec Tryz.prog 152 [encB b] (encB (padded b)) := by
 have hp := padN_lt b.length
 have hpn : padN b.length = (119 - b.length % 64) % 64 := by unfold padN; rfl
 refine PSpec.of_vc (fun Γ => more6 false Γ.P Γ.fx) (fun Γ => more6_ok) Tryz.func152 rfl Tryz.call152 (by simp) ?_
 rintro ⟨P, N, w0, X, β0, fx, y, hy, pk, df⟩ rfl rfl rfl hoff rfl; change y.on = false at hoff
 repeat' ((try conv => whnf); first|refine aq rfl ?_|refine aq bd ?_|fail)
 refine Wp.loop (fun k : Nat => ⟨[(0, .pure (encB b)), (3, .lsl 10 0 (padK b k).length)], [(10, some (.row 1 ((padK b k).map bR)))], [10]⟩) (fun k => k ≤ padN b.length) (fun k => 64 - k) 0 (Le.of ?_ ?_ rfl rfl rfl) (by omega) ?_
 · (repeat' (first|exact trivial|refine aq ?_ ?_|exact oq|fail))
   all_goals exact SubA.lsl (by rw [padK_len]; simp; try omega)
 · (repeat' (first|exact trivial|refine aq ?_ ?_|fail))
   all_goals exact rowEq (by unfold padK; simp)
 intro k hk
 have hl := padK_len b k
 have hl2 := padK_len b (k + 1)
 have hn := padK_next b k
 obtain ⟨L, hL⟩ : ∃ L, L = padK b k := ⟨_, rfl⟩
 rw [← hL] at hl hn ⊢
 by_cases hk2 : k < padN b.length
 · refine code_sound (more := more6 false _ _) more6_ok FOK.wide _ ?_
   repeat' ((try conv => whnf); first|refine aq bd ?_|fail)
   refine ⟨((L.length % 64 : Nat) : Int), (Int.ofNat_tmod _ 64).symm, ?_⟩
   repeat' ((try conv => whnf); first|(first|refine k3 ?_ ?_|refine k4 ?_ ?_) <;> intro hb <;> (try rw [lM] at hb) <;> try (exfalso; omega)|refine aq bd ?_|fail)
   refine ⟨k + 1, Le.map [(10, 17)] ?_ ?_ rfl rfl rfl rfl, by omega, by omega⟩
   all_goals rw [hn]
   · (repeat' (first|exact trivial|refine aq ?_ ?_|exact oq|exact SubA.lsl ls|fail))
   · (repeat' (first|exact trivial|refine aq ?_ ?_|exact rowEq rs|fail))
     all_goals exact rowEq (by simp; rfl)
 · have ek : k = padN b.length := by omega
   subst ek
   refine code_sound (more := more6 false _ _) more6_ok FOK.wide _ ?_
   repeat' ((try conv => whnf); first|refine aq bd ?_|fail)
   refine ⟨((L.length % 64 : Nat) : Int), (Int.ofNat_tmod _ 64).symm, ?_⟩
   repeat' ((try conv => whnf); first|(first|refine k3 ?_ ?_|refine k4 ?_ ?_) <;> intro hb <;> (try rw [lM] at hb) <;> try (exfalso; omega)|fail)
   refine ⟨((b.length : Nat) : Int), by rw [List.length_map, wrap_u64]; omega, ?_⟩
   skip
   refine ⟨((8 * b.length : Nat) : Int), by rw [wrap_u64]; omega, ?_⟩
   skip
   refine Wp.loop (fun k : Nat => ⟨[(3, .lsl 10 0 (padB b k).length), (4, .pure (.val (.int .u64 ((8 * b.length : Nat) : Int)))), (5, .int (7 - (k : Int)))], [(10, some (.row 1 ((padB b k).map bR)))], [10]⟩) (fun k => k ≤ 8) (fun k => 8 - k) 0 (Le.of ?_ ?_ rfl rfl rfl) (by omega) ?_
   · rw [padB_zero, ← hL]
     (repeat' (first|exact trivial|refine aq ?_ ?_|exact oq|fail))
   · rw [padB_zero, ← hL]
     (repeat' (first|exact trivial|exact rfl|refine aq ?_ ?_|fail))
   intro i hi
   have gl := padB_len b i hi
   have gn := padB_next b i
   have ga := padB_all b
   obtain ⟨G, hG⟩ : ∃ G, G = padB b i := ⟨_, rfl⟩
   rw [← hG] at gl gn ⊢
   by_cases hi2 : i < 8
   · refine code_sound (more := more6 false _ _) more6_ok FOK.wide _ ?_
     repeat' ((try conv => whnf); first|(first|refine k3 ?_ ?_|refine k4 ?_ ?_) <;> intro hb <;> (try rw [lM] at hb) <;> try (exfalso; omega)|refine s4 nm ?_|refine aq bd ?_|fail)
     refine ⟨((8 * b.length / 256 ^ (7 - i) : Nat) : Int), shr_bytes _ (7 - i) (by omega) _ (by omega), ?_⟩
     skip
     refine ⟨_, wrap_byte _, ?_⟩
     repeat' ((try conv => whnf); first|refine s4 nm ?_|refine aq bd ?_|fail)
     refine ⟨i + 1, Le.map [(10, 33)] ?_ ?_ rfl rfl rfl rfl, by omega, by omega⟩
     all_goals rw [gn hi2]
     · (repeat' (first|exact trivial|refine aq ?_ ?_|exact oq|exact l1 bd|exact SubA.lsl ls|fail))
     · (repeat' (first|exact trivial|refine aq ?_ ?_|exact rowEq rs|fail))
       all_goals exact rowEq (by simp; rfl)
   · have ei : i = 8 := by omega
     subst ei
     refine code_sound (more := more6 false _ _) more6_ok FOK.wide _ ?_
     skip
     rw [← ga, ← hG]
     exact sub_sl (by rw [List.drop_zero, List.take_of_length_le (by simp)])
theorem shaRun_take {P : List UInt8} {k : Nat} (h : 64 * (k + 1) ≤ P.length) : (shaRun shaH (P.take (64 * (k + 1)))).1 = shaBlock (shaRun shaH (P.take (64 * k))).1 (cut P (64 * k) (64 * k + 64)) := by
 have e : P.take (64 * (k + 1)) = P.take (64 * k) ++ cut P (64 * k) (64 * k + 64) := by
   unfold cut
   rw [show 64 * (k + 1) = 64 * k + 64 by omega, List.take_add, show 64 * k + 64 - 64 * k = 64 by omega]
 have h2 := shaRun_len _ shaH (P.take (64 * k)) (Nat.le_refl _)
 have h3 : (shaRun shaH (P.take (64 * k))).2 = [] := List.eq_nil_of_length_eq_zero (by rw [h2, List.length_take]; omega)
 rw [e, shaRun_app _ _ _ _ (Nat.le_refl _), h3, List.nil_append, shaRun_one (by simp [cut]; omega)]
theorem take_st (P : List UInt8) (k : Nat) : (shaRun shaH (P.take (64 * k))).1.length = 8 := shaRun_st _ _ _ (Nat.le_refl _) rfl
def bv (d : List UInt8) (i : Nat) : PV := .val (.int .u8 ((d.getD i 0).toNat : Int))
def dcells (d : List UInt8) : List PV := [bv d 0, bv d 1, bv d 2, bv d 3, bv d 4, bv d 5, bv d 6, bv d 7, bv d 8, bv d 9, bv d 10, bv d 11, bv d 12, bv d 13, bv d 14, bv d 15, bv d 16, bv d 17, bv d 18, bv d 19, bv d 20, bv d 21, bv d 22, bv d 23, bv d 24, bv d 25, bv d 26, bv d 27, bv d 28, bv d 29, bv d 30, bv d 31]
theorem dcells_range (d : List UInt8) : dcells d = (List.range 32).map (bv d) := rfl
theorem bflat (d : List UInt8) : (d.map bR).flatten = d.map fun b => PV.val (.int .u8 (b.toNat : Int)) := by
 induction d with
 | nil => rfl
 | cons x l ih => simp only [List.map_cons, List.flatten_cons, ih]; rfl
theorem dcells_eq {d : List UInt8} (h : d.length = 32) : (d.map bR).flatten = dcells d := by
 rw [dcells_range, bflat]
 apply List.ext_getElem
 · simp [h]
 · intro i h1 h2
   have hi : i < d.length := by simpa using h1
   simp only [List.getElem_map, List.getElem_range, bv]
   rw [getD_of d 0 i hi]
theorem bflat_len (d : List UInt8) : (d.map bR).flatten.length = d.length := by rw [bflat, List.length_map]
theorem bflat_ones (d : List UInt8) : onesB (d.map bR).flatten = true := onesB_flat (fun x : UInt8 => PV.val (.int .u8 (x.toNat : Int))) d fun _ => rfl
theorem bflat_sg (d : List UInt8) : singles (d.map bR).flatten = d.map bR := singles_flat (fun x : UInt8 => PV.val (.int .u8 (x.toNat : Int))) d
def digI (s : List UInt32) (i : Nat) : List UInt8 := (dig s).take i ++ List.replicate (32 - i) 0
theorem digI_len {s : List UInt32} {i : Nat} (h : i ≤ 32) : (digI s i).length = 32 := by simp [digI, dig_len]; omega
theorem digI_zero (s : List UInt32) : digI s 0 = List.replicate 32 0 := rfl
theorem digI_all (s : List UInt32) : digI s 32 = dig s := by simp [digI, List.take_of_length_le, dig_len]
theorem digI_step {s : List UInt32} {i j q : Nat} {n : Int} (hi : i < 32) (hj : j = i) (hq : q < s.length) (hq2 : q = i / 4) (hn : n = 24 - 8 * ((i % 4 : Nat) : Int)) {r : Int} (hr : r = IntKind.u8.wrap (((s[q]'hq).toNat : Int).fdiv (2 ^ (min n.toNat IntKind.u32.bits)))) :
   ((digI s i).map bR).set j [.val (.int .u8 r)] = (digI s (i + 1)).map bR := by
 obtain rfl := hj
 obtain rfl := hq2
 have e1 := shr_nat (s[j / 4]'hq).toNat (24 - 8 * (j % 4)) 32 (by omega)
 rw [Int.toNat_natCast] at e1
 rw [show n.toNat = 24 - 8 * (j % 4) by omega, show IntKind.u32.bits = 32 from rfl, e1, wrap_byte] at hr
 subst hr
 refine row_set (x := UInt8.ofNat ((s[j / 4]'hq).toNat / 2 ^ (24 - 8 * (j % 4)) % 256)) rfl ?_
 have hd : (dig s).length = 32 := dig_len s
 unfold digI
 rw [List.set_append, if_neg (by rw [List.length_take, hd]; omega), List.length_take, hd, Nat.min_eq_left (by omega), Nat.sub_self, List.take_succ_eq_append_getElem (by omega), List.append_assoc]
 obtain ⟨m, hm⟩ : ∃ m, 32 - j = m + 1 := ⟨31 - j, by omega⟩
 rw [hm, show 32 - (j + 1) = m by omega]
 congr 1
 simp only [List.replicate_succ, List.set_cons_zero, List.singleton_append]
 congr 1
 simp only [dig, List.getElem_map, List.getElem_range]
 rw [getD_of s 0 (j / 4) hq]
attribute [local irreducible] dig digI shaS shaBlock
theorem rsum_spec (b : List UInt8) (hb0 : b.length ≤ 1000000) : PSpec Tryz.prog 146 [encB b] (.agg (dcells (sha b))) := by
 have hP := padded_len b
 have hS := shaS_padded b
 have hPl : (padded b).length ≤ 1000100 := by
   have := padN_lt b.length
   have e : (padded b).length = b.length + 1 + padN b.length + 8 := by rw [← padB_all, padB_len _ _ (Nat.le_refl _)]
   omega
 obtain ⟨P, hPe⟩ : ∃ P, P = padded b := ⟨_, rfl⟩
 have qp := padded_spec b hb0
 rw [← hPe] at hP hS hPl qp
 refine PSpec.of_vc (fun Γ => more6 false Γ.P Γ.fx) (fun Γ => more6_ok) Tryz.func146 rfl Tryz.call146 (by simp) ?_
 rintro ⟨P, N, w0, X, β0, fx, y, hy, pk, df⟩ rfl rfl rfl hoff rfl; change y.on = false at hoff
 repeat' ((try conv => whnf); first|refine aq rfl ?_|refine .inr ⟨rfl, rfl, rfl, ?_⟩|fail)
 refine .inl ⟨_, qp, ?_⟩
 repeat' ((try conv => whnf); first|refine aq rfl ?_|fail)
 refine Wp.loop (fun k : Nat => ⟨[(2, .loc 2 0 0), (3, .loc 3 0 0), (4, .pure (encB P)), (5, .int (64 * (k : Int)))], [(3, some (.row 1 ((shaRun shaH (P.take (64 * k))).1.map wR))), (2, some (.row 1 ((List.replicate 32 (0 : UInt8)).map bR)))], [3, 2]⟩) (fun k => 64 * k ≤ P.length) (fun k => P.length - 64 * k) 0 (Le.of ?_ ?_ rfl rfl rfl) (by omega) ?_
 · (repeat' (first|exact trivial|refine aq ?_ ?_|exact oq|fail))
 · (repeat' (first|exact trivial|exact rfl|refine aq ?_ ?_|fail))
   exact rowEq (by rw [show P.take (64 * 0) = [] from rfl, shaRun_small (by decide)]; rfl)
 intro k hk
 by_cases hk2 : 64 * k < P.length
 · have h64 := take_st P k
   have h65 := shaRun_take (P := P) (k := k) (by omega)
   obtain ⟨S, hSe⟩ : ∃ S, S = (shaRun shaH (P.take (64 * k))).1 := ⟨_, rfl⟩
   rw [← hSe] at h64 h65 ⊢
   refine code_sound (more := more6 false _ _) more6_ok FOK.wide _ ?_
   repeat' ((try conv => whnf); first|(first|refine k3 ?_ ?_|refine k4 ?_ ?_) <;> intro hb <;> (try rw [lM] at hb) <;> try (exfalso; omega)|fail)
   refine Wp.draw (more := more6 true _ _) more6_det more6_ok FOK.wide rfl (by decide +kernel) (by conv => lhs; reduce) ?_
   skip
   refine .inr ⟨rfl, rfl, by rw [List.length_map, h64]; rfl, ?_⟩
   repeat' ((try conv => whnf); first|refine s4 nm ?_|refine aq bd ?_|fail)
   refine ⟨_, rblock_spec S (cut P (64 * k) (64 * k + 64)) _ h64 (by simp [cut]; omega) (by rw [cut_map]; congr 2 <;> omega), ?_⟩
   repeat' ((try conv => whnf); first|refine aq rfl ?_|refine .inr ⟨rfl, rfl, rfl, ?_⟩|fail)
   have hbl := shaBlock_len S (cut P (64 * k) (64 * k + 64))
   refine ⟨by rw [wflat_len, hbl, List.length_map, h64], wflat_ones _, by rw [wflat_len, hbl]; rfl, _, wflat_sg _, ?_⟩
   repeat' ((try conv => whnf); first|refine s4 nm ?_|fail)
   refine ⟨k + 1, Le.of ?_ ?_ rfl rfl rfl, by omega, by omega⟩
   · (repeat' (first|exact trivial|refine aq ?_ ?_|exact oq|fail))
   · rw [h65]
     (repeat' (first|exact trivial|exact rfl|refine aq ?_ ?_|fail))
 · have ek : 64 * k = P.length := by omega
   have hfin : (shaRun shaH (P.take (64 * k))).1 = shaS b := by rw [List.take_of_length_le (by omega), hS]
   have hS8 := shaS_len b
   rw [hfin]
   refine code_sound (more := more6 false _ _) more6_ok FOK.wide _ ?_
   repeat' ((try conv => whnf); first|(first|refine k3 ?_ ?_|refine k4 ?_ ?_) <;> intro hb <;> (try rw [lM] at hb) <;> try (exfalso; omega)|refine aq rfl ?_|refine .inr ⟨rfl, rfl, rfl, ?_⟩|fail)
   refine Wp.loop (fun i : Nat => ⟨[(2, .loc 2 0 0), (3, .loc 3 0 0), (6, .loc 6 0 0), (7, .int i)], [(6, some (.row 1 ((digI (shaS b) i).map bR))), (3, some (.row 1 ((shaS b).map wR))), (2, some (.row 1 ((List.replicate 32 (0 : UInt8)).map bR)))], [6, 3, 2]⟩) (fun i => i ≤ 32) (fun i => 32 - i) 0 (Le.of ?_ ?_ rfl rfl rfl) (by omega) ?_
   · (repeat' (first|exact trivial|refine aq ?_ ?_|exact oq|fail))
   · (repeat' (first|exact trivial|exact rfl|refine aq ?_ ?_|fail))
     exact rowEq (by rw [digI_zero]; rfl)
   intro i hi
   have hd := digI_len (s := shaS b) hi
   by_cases hi2 : i < 32
   · refine code_sound (more := more6 false _ _) more6_ok FOK.wide _ ?_
     repeat' ((try conv => whnf); first|(first|refine k3 ?_ ?_|refine k4 ?_ ?_) <;> intro hb <;> (try rw [lM] at hb) <;> try (exfalso; omega)|refine aq bd ?_|fail)
     refine ⟨((i / 4 : Nat) : Int), by rw [show ((i : Int)).tdiv 4 = ((i / 4 : Nat) : Int) from (Int.ofNat_tdiv i 4).symm]; exact wI (by omega), ?_⟩
     repeat' ((try conv => whnf); first|refine aq rfl ?_|refine aq bd ?_|refine ⟨_, _, getMapN nm, rfl, ?_⟩|fail)
     refine ⟨((i % 4 : Nat) : Int), (Int.ofNat_tmod i 4).symm, ?_⟩
     repeat' ((try conv => whnf); first|refine s4 nm ?_|refine aq bd ?_|fail)
     refine ⟨_, rfl, ?_⟩
     skip
     refine ⟨_, rfl, ?_⟩
     repeat' ((try conv => whnf); first|refine aq rfl ?_|refine s4 nm ?_|refine aq bd ?_|refine ⟨_, set_rfl _ _ _, ?_⟩|fail)
     exact ⟨i + 1, Le.of (by (repeat' (first|exact trivial|refine aq ?_ ?_|exact oq|fail))) (by (repeat' (first|exact trivial|exact rfl|refine aq ?_ ?_|fail)); exact rowEq (digI_step hi2 (by omega) (by omega) (by omega) rfl rfl)) rfl rfl rfl, by omega, by omega⟩
   · have ei : i = 32 := by omega
     subst ei
     rw [digI_all]
     have hdl := dig_len (shaS b)
     refine code_sound (more := more6 false _ _) more6_ok FOK.wide _ ?_
     skip
     refine .inr ⟨rfl, rfl, by rw [List.length_map, hdl]; rfl, ?_⟩
     repeat' ((try conv => whnf); first|refine .inr ⟨rfl, rfl, rfl, ?_⟩|fail)
     refine ⟨by rw [bflat_len, hdl]; rfl, bflat_ones _, by rw [bflat_len, hdl]; rfl, _, bflat_sg _, ?_⟩
     skip
     refine .inr ⟨rfl, rfl, by rw [List.length_map, hdl]; rfl, ?_⟩
     skip
     exact PSub.of_eq (by rw [dcells_eq hdl, sha])
end Go.Proofs.YtjfjpnefohbobaaGreatDoor
/- Digest: blocks, hash, Tagged; the reference's Tagged. Conditions: none. -/
namespace Go.Proofs.YtjfjpnefohbobaaGreatDoor
open Go.Avc
theorem encB_rows (b : List UInt8) : encB b = .sl 1 (b.map bR) := rfl
theorem rsum_rows (b : List UInt8) (rows : List (List PV)) (hb0 : b.length ≤ 1000000) (hr : rows = b.map bR) : PSpec Tryz.prog 146 [.sl 1 rows] (.agg (dcells (sha b))) := by
 rw [hr, ← encB_rows]; exact rsum_spec b hb0
theorem dcells_len (d : List UInt8) : (dcells d).length = 32 := rfl
theorem dcells_sing {d : List UInt8} (h : d.length = 32) : singles (dcells d) = d.map bR := by rw [← dcells_eq h]; exact bflat_sg d
theorem byteRows_eq (l : List UInt8) : byteRows l = l.map bR := rfl
theorem rows_app {x b : List UInt8} {n : Nat} (hx : x.length = 32) (hn : x.length + b.length ≤ n) : List.take n (List.drop 0 ([] ++ List.take (32 - 0) (List.drop 0 (singles (dcells x))) ++ b.map bR)) = (x ++ b).map bR := by
 rw [dcells_sing hx, List.drop_zero, List.drop_zero, List.nil_append, List.take_of_length_le (l := x.map bR) (by simp [hx]), ← List.map_append, List.take_of_length_le (by simp; omega)]
theorem tagged_eq (t b : List UInt8) : tagged t b = sha (sha t ++ b) := rfl
attribute [local irreducible] PSub Wp PSpec Le Need Both
attribute [local irreducible] sha tagged
theorem rtagged_spec (t : ByteArray) (b : List UInt8) (ht : t.size ≤ 1000) (hb0 : b.length ≤ 900000) : PSpec Tryz.prog 134 [.val (.string t), encB b] (.agg (dcells (tagged t.data.toList b))) := by
 have h1 := sha_len t.data.toList
 have hsz : t.data.toList.length = t.size := by simp
 refine PSpec.of_vc (fun Γ => more6 false Γ.P Γ.fx) (fun Γ => more6_ok) Tryz.func134 rfl Tryz.call134 (by simp) ?_
 rintro ⟨P, N, w0, X, β0, fx, y, hy, pk, df⟩ rfl rfl rfl hoff rfl; change y.on = false at hoff
 repeat' ((try conv => whnf); first|refine aq bd ?_|fail)
 refine .inl ⟨_, rsum_rows t.data.toList _ (by omega) (by rw [List.drop_zero, List.take_of_length_le (by simp [byteRows]), byteRows_eq]), ?_⟩
 repeat' ((try conv => whnf); first|refine aq rfl ?_|refine aq bd ?_|refine .inr ⟨rfl, rfl, rfl, ?_⟩|refine ⟨_, singles_rfl _, ?_⟩|fail)
 refine .inl ⟨_, rsum_rows (sha t.data.toList ++ b) _ (by rw [List.length_append]; omega) (rows_app h1 (by simp [h1, dcells_len, singles])), ?_⟩
 repeat' ((try conv => whnf); first|refine aq rfl ?_|refine .inr ⟨rfl, rfl, rfl, ?_⟩|refine ⟨_, singles_rfl _, ?_⟩|fail)
 exact PSub.of_eq (by rw [tagged_eq]; rfl)
end Go.Proofs.YtjfjpnefohbobaaGreatDoor
/- Digest: blocks. Conditions: none. -/
namespace Go.Proofs.YtjfjpnefohbobaaGreatDoor
open Go.Avc
def encParts (parts : List (List UInt8)) : PV := .sl 1 (parts.map fun p => [encB p])
def shaFin (s : List UInt32) (l : List UInt8) : List UInt32 := shaEnd (shaRun s l).1 (shaRun s l).2 l.length
theorem run_full {s : List UInt32} {L x : List UInt8} (h : (shaRun s L).2.length + x.length = 64) : shaRun s (L ++ x) = (shaBlock (shaRun s L).1 ((shaRun s L).2 ++ x), []) := by
 rw [shaRun_app _ _ _ _ (Nat.le_refl _), shaRun_one (by simp; omega)]
theorem run_part {s : List UInt32} {L x : List UInt8} (h : (shaRun s L).2.length + x.length < 64) : shaRun s (L ++ x) = ((shaRun s L).1, (shaRun s L).2 ++ x) := by
 rw [shaRun_app _ _ _ _ (Nat.le_refl _), shaRun_small (by simp; omega)]
theorem run_lt (s : List UInt32) (L : List UInt8) : (shaRun s L).2.length < 64 := by
 rw [shaRun_len _ _ _ (Nat.le_refl _)]; exact Nat.mod_lt _ (by decide)
def tk (parts : List (List UInt8)) (j i : Nat) : List UInt8 := (parts.take j).flatten ++ (parts.getD j []).take i
theorem tk_next {parts : List (List UInt8)} {j : Nat} (hj : j < parts.length) : tk parts j (parts[j]).length = tk parts (j + 1) 0 := by
 unfold tk
 rw [List.take_zero, List.append_nil, List.take_succ_eq_append_getElem hj, ← getD_of parts [] j hj, List.take_of_length_le (Nat.le_refl _), List.flatten_append]
 simp only [List.flatten_cons, List.flatten_nil, List.append_nil]
theorem tk_more {parts : List (List UInt8)} {j i n : Nat} (hj : j < parts.length) : tk parts j (i + n) = tk parts j i ++ ((parts[j]).drop i).take n := by
 unfold tk
 rw [← getD_of parts [] j hj, List.take_add, List.append_assoc]
theorem tk_le {parts : List (List UInt8)} {j i : Nat} (hj : j < parts.length) (hi : i ≤ (parts[j]).length) : (tk parts j i).length = (parts.take j).flatten.length + i ∧ (tk parts j i).length ≤ parts.flatten.length ∧ (parts.take j).flatten.length + (parts[j]).length ≤ parts.flatten.length := by
 have h1 : (tk parts j i).length = (parts.take j).flatten.length + i := by
   unfold tk
   rw [← getD_of parts [] j hj, List.length_append, List.length_take, Nat.min_eq_left hi]
 have h2 : parts.flatten.length = (parts.take j).flatten.length + ((parts[j]).length + (parts.drop (j + 1)).flatten.length) := by
   conv => lhs; rw [← List.take_append_drop j parts, List.drop_eq_getElem_cons hj]
   rw [List.flatten_append, List.length_append, List.flatten_cons, List.length_append]
 omega
theorem tk_zero (parts : List (List UInt8)) : tk parts 0 0 = [] := by simp [tk]
theorem tk_all (parts : List (List UInt8)) : tk parts parts.length 0 = parts.flatten := by simp [tk]
theorem ovr_map {f : UInt8 → List PV} {l src : List UInt8} {i c : Nat} : ovr (l.map f) i c (src.map f) = (ovr l i c src).map f := by simp [ovr, List.map_take, List.map_drop]
theorem cut_drop {α : Type} {l : List α} {n m : Nat} (h : m = l.length) : cut l n m = l.drop n := by
 unfold cut
 exact List.take_of_length_le (by simp; omega)
theorem pad_row {C r : List UInt8} {a b c : Nat} (hC : C.length = 64) (hr : C.take r.length = r) (hlt : r.length < 64) (ha : a = r.length) (hb : b = r.length + 1) (hc : c = 64 - b) :
   ovr ((C.map bR).set a [.val (.int .u8 128)]) b c (List.replicate c (List.map PV.val (Value.int .u8 0).cells.toList)) = (r ++ 128 :: List.replicate (63 - r.length) 0).map bR := by
 subst ha hc hb
 have e1 : (C.map bR).set r.length [.val (.int .u8 128)] = (C.set r.length 128).map bR := row_set (x := 128) rfl rfl
 have e2 : List.replicate (64 - (r.length + 1)) (List.map PV.val (Value.int .u8 0).cells.toList) = (List.replicate (64 - (r.length + 1)) (0 : UInt8)).map bR := by rw [List.map_replicate]; rfl
 rw [e1, e2, ovr_map]
 congr 1
 unfold ovr
 have e3 : (C.set r.length 128).take (r.length + 1) = r ++ [128] := by
   rw [List.take_succ_eq_append_getElem (by rw [List.length_set]; omega), List.take_set_of_le (Nat.le_refl _), hr]
   simp
 rw [e3, List.take_of_length_le (by simp), List.drop_eq_nil_of_le (by rw [List.length_set]; omega), show 64 - (r.length + 1) = 63 - r.length by omega]
 simp
theorem clear_row {B : List UInt8} {c : Nat} (hB : B.length = 64) (hc : c = 64) : ovr (B.map bR) 0 c (List.replicate c (List.map PV.val (Value.int .u8 0).cells.toList)) = (List.replicate 64 (0 : UInt8)).map bR := by
 subst hc
 have e2 : List.replicate 64 (List.map PV.val (Value.int .u8 0).cells.toList) = (List.replicate 64 (0 : UInt8)).map bR := by rw [List.map_replicate]; rfl
 rw [e2, ovr_map]
 congr 1
 unfold ovr
 rw [List.drop_eq_nil_of_le (by omega)]
 simp
def lenI (base : List UInt8) (n i : Nat) : List UInt8 := base.take (64 - i) ++ (be8 (8 * n)).drop (8 - i)
theorem lenI_len {base : List UInt8} {n i : Nat} (hb : base.length = 64) (hi : i ≤ 8) : (lenI base n i).length = 64 := by
 simp only [lenI, List.length_append, List.length_take, List.length_drop, be8_len]; omega
theorem lenI_zero {base : List UInt8} {n : Nat} (hb : base.length = 64) : lenI base n 0 = base := by
 unfold lenI
 rw [List.take_of_length_le (by omega), List.drop_eq_nil_of_le (by rw [be8_len]; omega), List.append_nil]
theorem lenI_all (base : List UInt8) (n : Nat) : lenI base n 8 = base.take 56 ++ be8 (8 * n) := rfl
theorem lenI_step {base : List UInt8} {n i a : Nat} (hb : base.length = 64) (hi : i < 8) (ha : a = 63 - i) : (lenI base n i).set a (UInt8.ofNat (8 * n / 256 ^ i % 256)) = lenI base n (i + 1) := by
 subst ha
 have h1 : (base.take (64 - i)).length = 64 - i := by rw [List.length_take]; omega
 have h2 : base.take (64 - i) = base.take (63 - i) ++ [base[63 - i]] := by
   rw [show 64 - i = (63 - i) + 1 by omega, List.take_succ_eq_append_getElem (by omega)]
 have h3 : (be8 (8 * n)).drop (8 - (i + 1)) = UInt8.ofNat (8 * n / 256 ^ i % 256) :: (be8 (8 * n)).drop (8 - i) := by
   rw [List.drop_eq_getElem_cons (by rw [be8_len]; omega), be8_get _ _ (by omega), show 7 - (8 - (i + 1)) = i by omega, show 8 - (i + 1) + 1 = 8 - i by omega]
 unfold lenI
 rw [h3, show 64 - (i + 1) = 63 - i by omega, h2, List.append_assoc, List.set_append, if_neg (by rw [List.length_take]; omega), List.length_take, Nat.min_eq_left (by omega), Nat.sub_self]
 rfl
theorem ovr_full {C r x : List UInt8} {n : Nat} (hC : C.length = 64) (hr : C.take r.length = r) (hn : r.length + n = 64) (hx : n ≤ x.length) : ovr C r.length n x = r ++ x.take n := by
 unfold ovr
 rw [hr, List.drop_eq_nil_of_le (by omega), List.append_nil]
theorem ovr_part {C r x : List UInt8} (hC : C.length = 64) (hr : C.take r.length = r) (hn : r.length + x.length < 64) : (ovr C r.length x.length x).take (r ++ x).length = r ++ x ∧ (ovr C r.length x.length x).length = 64 := by
 have h1 : (C.take r.length).length = r.length := by rw [List.length_take]; omega
 unfold ovr
 rw [hr, List.take_of_length_le (l := x) (Nat.le_refl _)]
 refine ⟨List.take_left' rfl, by simp; omega⟩
def blkS0 (s : List UInt32) (parts : List (List UInt8)) : St := ⟨numE 0 [.fn (151 + bmB) [.loc 300 0 0], .pure (encParts parts)], [(300, some (.row 1 (s.map wR)))], [300]⟩
def blkS1 (s : List UInt32) : St := ⟨[], [(300, some (.row 1 (s.map wR)))], [300]⟩
theorem shaEnd_eq (s : List UInt32) (r : List UInt8) (n : Nat) : shaEnd s r n = if r.length + 1 ≤ 56 then shaBlock s (r ++ 128 :: (List.replicate (55 - r.length) 0 ++ be8 (8 * n))) else shaBlock (shaBlock s (r ++ 128 :: List.replicate (63 - r.length) 0)) (List.replicate 56 0 ++ be8 (8 * n)) := rfl
attribute [local irreducible] PSub Wp PSpec Le Need Both
attribute [local irreducible] lenI be8 shaBlock shaFin tk shaEnd
theorem blocks_spec (s : List UInt32) (parts : List (List UInt8)) (hs : s.length = 8) (hp : parts.length ≤ 1000) (hl : parts.flatten.length ≤ 1000000) : GSpec Tryz.prog 150 2 (blkS0 s parts) [300] 0 (blkS1 (shaFin s parts.flatten)) := by
 refine GSpec.of_vc (fun Γ => more6 false Γ.P Γ.fx) (fun Γ => more6_ok) Tryz.func150 rfl Tryz.call150 (by decide) ?_
 rintro ⟨P, N, w0, X, β0, fx, y, hy, pk, df⟩ rfl rfl rfl hoff rfl; change y.on = false at hoff
 skip
 refine Wp.loop (fun x : Nat × List UInt8 => ⟨[(0, .fn (151 + bmB) [.loc 300 0 0]), (4, .loc 4 0 0), (5, .int (shaRun s (tk parts x.1 0)).2.length), (6, .pure (.val (.int .u64 ((tk parts x.1 0).length : Nat)))), (11, .pure (encParts parts)), (12, .int parts.length), (13, .int x.1)], [(4, some (.row 1 (x.2.map bR))), (300, some (.row 1 ((shaRun s (tk parts x.1 0)).1.map wR)))], [4, 300]⟩)
   (fun x => x.1 ≤ parts.length ∧ x.2.length = 64 ∧ x.2.take (shaRun s (tk parts x.1 0)).2.length = (shaRun s (tk parts x.1 0)).2) (fun x => parts.length - x.1) (0, List.replicate 64 0) (Le.of ?_ ?_ rfl rfl rfl) ⟨by omega, by simp, ?_⟩ ?_
 · rw [tk_zero, shaRun_small (by decide)]
   (repeat' (first|exact trivial|refine aq ?_ ?_|exact oq|exact l1 bd|fail))
 · rw [tk_zero, shaRun_small (by decide)]
   (repeat' (first|exact trivial|exact rfl|refine aq ?_ ?_|fail))
 · rw [tk_zero, shaRun_small (by decide)]
   rfl
 rintro ⟨j, C⟩ ⟨hj, hC, hr⟩
 dsimp only at hj hC hr ⊢
 by_cases hj2 : j < parts.length
 · obtain ⟨g1, g2, g3⟩ := tk_le hj2 (Nat.zero_le _)
   have hpl : (parts[j]).length ≤ 1000000 := by omega
   have g4 : (tk parts j 0).length + (parts[j]).length = (tk parts (j + 1) 0).length := by rw [← tk_next hj2, (tk_le hj2 (Nat.le_refl _)).1]; omega
   refine code_sound (more := more6 false _ _) more6_ok FOK.wide _ ?_
   repeat' ((try conv => whnf); first|(first|refine k3 ?_ ?_|refine k4 ?_ ?_) <;> intro hb <;> (try rw [lM] at hb) <;> try (exfalso; omega)|refine s5 nm nm ?_|fail)
   refine ⟨((parts[j]).length : Int), by rw [List.length_map, wrap_u64]; omega, ?_⟩
   skip
   refine ⟨(((tk parts (j + 1) 0).length : Nat) : Int), by rw [wrap_u64]; omega, ?_⟩
   skip
   refine Wp.loop (fun x : Nat × List UInt8 => ⟨[(0, .fn (151 + bmB) [.loc 300 0 0]), (4, .loc 4 0 0), (5, .int (shaRun s (tk parts j x.1)).2.length), (6, .pure (.val (.int .u64 ((tk parts (j + 1) 0).length : Nat)))), (8, .pure (.sl 1 (((parts[j]).drop x.1).map bR))), (11, .pure (encParts parts)), (12, .int parts.length), (13, .int j)], [(4, some (.row 1 (x.2.map bR))), (300, some (.row 1 ((shaRun s (tk parts j x.1)).1.map wR)))], [4, 300]⟩)
     (fun x => x.1 ≤ (parts[j]).length ∧ x.2.length = 64 ∧ x.2.take (shaRun s (tk parts j x.1)).2.length = (shaRun s (tk parts j x.1)).2) (fun x => (parts[j]).length - x.1) (0, C) (Le.of ?_ ?_ rfl rfl rfl) ⟨by omega, hC, hr⟩ ?_
   · (repeat' (first|exact trivial|refine aq ?_ ?_|exact oq|fail))
   · (repeat' (first|exact trivial|exact rfl|refine aq ?_ ?_|fail))
   rintro ⟨i, D⟩ ⟨hi, hD, hr2⟩
   dsimp only at hi hD hr2 ⊢
   have hlt := run_lt s (tk parts j i)
   have hst := shaRun_st _ s (tk parts j i) (Nat.le_refl _) hs
   by_cases hi2 : i < (parts[j]).length
   · obtain ⟨q, hq⟩ : ∃ q, q = (parts[j]).drop i := ⟨_, rfl⟩
     have hql : q.length = (parts[j]).length - i := by rw [hq, List.length_drop]
     have hmore : ∀ n, shaRun s (tk parts j (i + n)) = shaRun s (tk parts j i ++ q.take n) := fun n => by rw [tk_more hj2, hq]
     have hdrop : ∀ n, (parts[j]).drop (i + n) = q.drop n := fun n => by rw [hq, List.drop_drop]
     have hfull : ∀ x : List UInt8, (shaRun s (tk parts j i)).2.length + x.length = 64 → _ := fun x => run_full (s := s) (L := tk parts j i) (x := x)
     have hpart : ∀ x : List UInt8, (shaRun s (tk parts j i)).2.length + x.length < 64 → _ := fun x => run_part (s := s) (L := tk parts j i) (x := x)
     obtain ⟨⟨st, r⟩, hR⟩ : ∃ x, x = shaRun s (tk parts j i) := ⟨_, rfl⟩
     rw [← hR] at hlt hst hr2
     simp only [← hR, ← hq] at hfull hpart ⊢
     dsimp only at hlt hst hr2 hfull hpart ⊢
     by_cases hb64 : r.length + q.length < 64
     · have hp1 := hpart q hb64
       obtain ⟨o1, o2⟩ := ovr_part (x := q) hD hr2 hb64
       obtain ⟨D', hD'⟩ : ∃ D', D' = ovr D r.length q.length q := ⟨_, rfl⟩
       rw [← hD'] at o1 o2
       refine code_sound (more := more6 false _ _) more6_ok FOK.wide _ ?_
       repeat' ((try conv => whnf); first|(first|refine k3 ?_ ?_|refine k4 ?_ ?_) <;> intro hb <;> (try rw [lM] at hb) <;> try (exfalso; omega)|refine aq rfl ?_|refine aq bd ?_|fail)
       refine Wp.le (s' := ⟨[(0, .fn (151 + bmB) [.loc 300 0 0]), (4, .loc 4 0 0), (5, .int r.length), (9, .int q.length), (6, .pure (.val (.int .u64 ((tk parts (j + 1) 0).length : Nat)))), (8, .pure (.sl 1 (q.map bR))), (11, .pure (encParts parts)), (12, .int parts.length), (13, .int j)], [(4, some (.row 1 (D'.map bR))), (300, some (.row 1 (st.map wR)))], [4, 300]⟩) (Le.of ?_ ?_ rfl rfl rfl) ?_
       · (repeat' (first|exact trivial|refine aq ?_ ?_|exact oq|exact l1 bd|fail))
       · (repeat' (first|exact trivial|exact rfl|refine aq ?_ ?_|fail))
         all_goals exact rowEq (by rw [show min (q.map bR).length (64 - ((r.length : Nat) : Int).toNat) = q.length by simp; omega, ovr_map, hD']; rfl)
       refine Wp.draw (more := more6 true _ _) more6_det more6_ok FOK.wide rfl (by decide +kernel) (by conv => lhs; reduce) ?_
       repeat' ((try conv => whnf); first|(first|refine k3 ?_ ?_|refine k4 ?_ ?_) <;> intro hb <;> (try rw [lM] at hb) <;> try (exfalso; omega)|refine s4 nm ?_|refine aq bd ?_|fail)
       have hm1 : shaRun s (tk parts j (i + q.length)) = (st, r ++ q) := by rw [hmore, List.take_of_length_le (Nat.le_refl _), hp1]
       have hd1 : (parts[j]).drop (i + q.length) = [] := by rw [hdrop, List.drop_length]
       refine ⟨(i + q.length, D'), Le.of ?_ ?_ rfl rfl rfl, ⟨by dsimp only; omega, o2, ?_⟩, by dsimp only; omega⟩
       all_goals dsimp only
       all_goals rw [hm1]
       · rw [hd1]
         (repeat' (first|exact trivial|refine aq ?_ ?_|exact oq|exact l1 bd|exact SubA.sl sc|fail))
       · (repeat' (first|exact trivial|exact rfl|refine aq ?_ ?_|fail))
       · exact o1
     · obtain ⟨n, hn⟩ : ∃ n, n = 64 - r.length := ⟨_, rfl⟩
       have hx := List.length_take (i := n) (l := q)
       rw [Nat.min_eq_left (by omega)] at hx
       have hp1 := hfull (q.take n) (by omega)
       have o1 := ovr_full (x := q) (n := n) hD hr2 (by omega) (by omega)
       refine code_sound (more := more6 false _ _) more6_ok FOK.wide _ ?_
       repeat' ((try conv => whnf); first|(first|refine k3 ?_ ?_|refine k4 ?_ ?_) <;> intro hb <;> (try rw [lM] at hb) <;> try (exfalso; omega)|refine aq rfl ?_|refine aq bd ?_|fail)
       refine Wp.le (s' := ⟨[(0, .fn (151 + bmB) [.loc 300 0 0]), (4, .loc 4 0 0), (5, .int r.length), (9, .int n), (6, .pure (.val (.int .u64 ((tk parts (j + 1) 0).length : Nat)))), (8, .pure (.sl 1 (q.map bR))), (11, .pure (encParts parts)), (12, .int parts.length), (13, .int j)], [(4, some (.row 1 ((r ++ q.take n).map bR))), (300, some (.row 1 (st.map wR)))], [4, 300]⟩) (Le.of ?_ ?_ rfl rfl rfl) ?_
       · (repeat' (first|exact trivial|refine aq ?_ ?_|exact oq|exact l1 bd|fail))
       · (repeat' (first|exact trivial|exact rfl|refine aq ?_ ?_|fail))
         all_goals exact rowEq (by rw [show min (q.map bR).length (64 - ((r.length : Nat) : Int).toNat) = n by simp; omega, ovr_map, ← o1]; rfl)
       refine Wp.draw (more := more6 true _ _) more6_det more6_ok FOK.wide rfl (by decide +kernel) (by conv => lhs; reduce) ?_
       repeat' ((try conv => whnf); first|(first|refine k3 ?_ ?_|refine k4 ?_ ?_) <;> intro hb <;> (try rw [lM] at hb) <;> try (exfalso; omega)|refine aq rfl ?_|refine s4 nm ?_|refine aq bd ?_|fail)
       have hm1 : shaRun s (tk parts j (i + n)) = (shaBlock st (r ++ q.take n), []) := by rw [hmore, hp1]
       have hlen : (r ++ q.take n).length = 64 := by rw [List.length_append]; omega
       refine .inr ⟨[(200, 300), (201, 4)], [.loc 200 0 0, .lsl 201 0 64], [(200, some (.row 1 (st.map wR))), (201, some (.row 1 ((r ++ q.take n).map bR)))], [200, 201], [200, 201], 0, _, absorb_spec st (r ++ q.take n) hst hlen, ⟨Or.inl rfl, Or.inl rfl, trivial⟩, ⟨rfl, rfl, trivial⟩, ?_⟩
       skip
       refine ⟨(i + n, r ++ q.take n), Le.of ?_ ?_ rfl rfl rfl, ⟨by dsimp only; omega, hlen, ?_⟩, by dsimp only; omega⟩
       all_goals dsimp only
       all_goals rw [hm1]
       · rw [hdrop]
         (repeat' (first|exact trivial|refine aq ?_ ?_|exact oq|fail))
         all_goals exact SubA.sl (by rw [cut_drop rfl, List.map_drop]; rfl)
       · (repeat' (first|exact trivial|exact rfl|refine aq ?_ ?_|fail))
       · rfl
   · have ei : i = (parts[j]).length := by omega
     subst ei
     rw [tk_next hj2] at hr2 ⊢
     have hd0 : ((parts[j]).drop (parts[j]).length) = [] := List.drop_length
     rw [hd0]
     refine code_sound (more := more6 false _ _) more6_ok FOK.wide _ ?_
     repeat' ((try conv => whnf); first|refine s4 nm ?_|fail)
     exact ⟨(j + 1, D), Le.of (by (repeat' (first|exact trivial|refine aq ?_ ?_|exact oq|fail))) (by (repeat' (first|exact trivial|exact rfl|refine aq ?_ ?_|fail))) rfl rfl rfl, ⟨by dsimp only; omega, hD, hr2⟩, by dsimp only; omega⟩
 · have ej : j = parts.length := by omega
   subst ej
   rw [tk_all] at hr ⊢
   have hlt := run_lt s parts.flatten
   have hst := shaRun_st _ s parts.flatten (Nat.le_refl _) hs
   have hfin : shaFin s parts.flatten = shaEnd (shaRun s parts.flatten).1 (shaRun s parts.flatten).2 parts.flatten.length := by unfold shaFin; rfl
   obtain ⟨N, hN⟩ : ∃ N, N = parts.flatten.length := ⟨_, rfl⟩
   rw [← hN] at hl hfin ⊢
   obtain ⟨⟨st, r⟩, hR⟩ : ∃ x, x = shaRun s parts.flatten := ⟨_, rfl⟩
   rw [← hR] at hlt hst hr hfin ⊢
   dsimp only at hlt hst hr hfin ⊢
   have hrow := fun (a b c : Nat) => pad_row (a := a) (b := b) (c := c) hC hr hlt
   obtain ⟨B, hB⟩ : ∃ B, B = r ++ 128 :: List.replicate (63 - r.length) 0 := ⟨_, rfl⟩
   have hBl : B.length = 64 := by rw [hB]; simp; omega
   have hBt : r.length + 1 ≤ 56 → B.take 56 = r ++ 128 :: List.replicate (55 - r.length) 0 := fun h => by
     rw [hB, List.take_append, List.take_of_length_le (by omega)]
     congr 1
     obtain ⟨m, hm⟩ : ∃ m, 56 - r.length = m + 1 := ⟨55 - r.length, by omega⟩
     rw [hm, List.take_succ_cons, List.take_replicate, show min m (63 - r.length) = 55 - r.length by omega]
   simp only [← hB] at hrow
   refine code_sound (more := more6 false _ _) more6_ok FOK.wide _ ?_
   repeat' ((try conv => whnf); first|(first|refine k3 ?_ ?_|refine k4 ?_ ?_) <;> intro hb <;> (try rw [lM] at hb) <;> try (exfalso; omega)|refine aq rfl ?_|refine s4 nm ?_|refine aq bd ?_|refine ⟨_, set_rfl _ _ _, ?_⟩|fail)
   · refine ⟨by rw [hrow _ _ _ (by omega) (by omega) (by omega), List.length_map, hBl], by omega, ?_⟩
     skip
     have hz : (List.replicate 64 (0 : UInt8)).length = 64 := List.length_replicate
     have hfin2 : shaFin s parts.flatten = shaBlock (shaBlock st B) (lenI (List.replicate 64 (0 : UInt8)) N 8) := by
       rw [hfin, lenI_all, shaEnd_eq, if_neg (by omega), hB]
       rfl
     refine .inr ⟨[(200, 300), (201, 4)], [.loc 200 0 0, .lsl 201 0 64], [(200, some (.row 1 (st.map wR))), (201, some (.row 1 (B.map bR)))], [200, 201], [200, 201], 0, _, absorb_spec st B hst hBl, ⟨Or.inl rfl, Or.inl rfl, trivial⟩, ⟨rfl, rowEq (hrow _ _ _ (by omega) (by omega) (by omega)), trivial⟩, ?_⟩
     repeat' ((try conv => whnf); first|refine aq rfl ?_|refine aq bd ?_|fail)
     refine Wp.loop (fun i : Nat => ⟨[(0, .fn (151 + bmB) [.loc 300 0 0]), (4, .loc 4 0 0), (6, .pure (.val (.int .u64 (N : Nat)))), (53, .int i)], [(4, some (.row 1 ((lenI (List.replicate 64 (0 : UInt8)) N i).map bR))), (300, some (.row 1 ((shaBlock st B).map wR)))], [4, 300]⟩) (fun i => i ≤ 8) (fun i => 8 - i) 0 (Le.of ?_ ?_ rfl rfl rfl) (by omega) ?_
     · (repeat' (first|exact trivial|refine aq ?_ ?_|exact oq|fail))
     · (repeat' (first|exact trivial|exact rfl|refine aq ?_ ?_|fail))
       all_goals exact rowEq (by rw [lenI_zero hz]; first | rfl | exact hrow _ _ _ (by omega) (by omega) (by omega) | exact clear_row hBl rfl)
     intro i hi
     have hll := lenI_len (n := N) hz hi
     by_cases hi2 : i < 8
     · refine code_sound (more := more6 false _ _) more6_ok FOK.wide _ ?_
       repeat' ((try conv => whnf); first|(first|refine k3 ?_ ?_|refine k4 ?_ ?_) <;> intro hb <;> (try rw [lM] at hb) <;> try (exfalso; omega)|refine s4 nm ?_|fail)
       refine ⟨((8 * N : Nat) : Int), by rw [wrap_u64]; omega, ?_⟩
       repeat' ((try conv => whnf); first|refine s4 nm ?_|refine aq bd ?_|fail)
       refine ⟨_, shr_bytes (8 * N) i (by omega) _ (by omega), ?_⟩
       skip
       refine ⟨_, wrap_byte _, ?_⟩
       repeat' ((try conv => whnf); first|refine aq rfl ?_|refine s4 nm ?_|refine aq bd ?_|refine ⟨_, set_map _ _ _, ?_⟩|fail)
       exact ⟨i + 1, Le.of (by (repeat' (first|exact trivial|refine aq ?_ ?_|exact oq|fail))) (by (repeat' (first|exact trivial|exact rfl|refine aq ?_ ?_|fail)); exact rowEq (congrArg (List.map bR) (lenI_step hz hi2 (by omega)))) rfl rfl rfl, by omega, by omega⟩
     · have ei : i = 8 := by omega
       subst ei
       refine code_sound (more := more6 false _ _) more6_ok FOK.wide _ ?_
       repeat' ((try conv => whnf); first|refine aq rfl ?_|refine aq bd ?_|fail)
       refine .inr ⟨[(200, 300), (201, 4)], [.loc 200 0 0, .lsl 201 0 64], [(200, some (.row 1 ((shaBlock st B).map wR))), (201, some (.row 1 ((lenI (List.replicate 64 (0 : UInt8)) N 8).map bR)))], [200, 201], [200, 201], 0, _, absorb_spec (shaBlock st B) (lenI (List.replicate 64 (0 : UInt8)) N 8) (shaBlock_len _ _) hll, ⟨Or.inl rfl, Or.inl rfl, trivial⟩, ⟨rfl, rfl, trivial⟩, ?_⟩
       skip
       rw [hfin2]
       exact Le.of (by (repeat' (first|exact trivial|fail))) (by (repeat' (first|exact trivial|exact rfl|refine aq ?_ ?_|fail))) rfl rfl rfl
   · have hfin2 : shaFin s parts.flatten = shaBlock st (lenI B N 8) := by
       rw [hfin, lenI_all, hBt (by omega), shaEnd_eq, if_pos (by omega)]
       simp
     refine Wp.loop (fun i : Nat => ⟨[(0, .fn (151 + bmB) [.loc 300 0 0]), (4, .loc 4 0 0), (6, .pure (.val (.int .u64 (N : Nat)))), (53, .int i)], [(4, some (.row 1 ((lenI (B) N i).map bR))), (300, some (.row 1 ((st).map wR)))], [4, 300]⟩) (fun i => i ≤ 8) (fun i => 8 - i) 0 (Le.of ?_ ?_ rfl rfl rfl) (by omega) ?_
     · (repeat' (first|exact trivial|refine aq ?_ ?_|exact oq|fail))
     · (repeat' (first|exact trivial|exact rfl|refine aq ?_ ?_|fail))
       all_goals exact rowEq (by rw [lenI_zero hBl]; first | rfl | exact hrow _ _ _ (by omega) (by omega) (by omega) | exact clear_row hBl rfl)
     intro i hi
     have hll := lenI_len (n := N) hBl hi
     by_cases hi2 : i < 8
     · refine code_sound (more := more6 false _ _) more6_ok FOK.wide _ ?_
       repeat' ((try conv => whnf); first|(first|refine k3 ?_ ?_|refine k4 ?_ ?_) <;> intro hb <;> (try rw [lM] at hb) <;> try (exfalso; omega)|refine s4 nm ?_|fail)
       refine ⟨((8 * N : Nat) : Int), by rw [wrap_u64]; omega, ?_⟩
       repeat' ((try conv => whnf); first|refine s4 nm ?_|refine aq bd ?_|fail)
       refine ⟨_, shr_bytes (8 * N) i (by omega) _ (by omega), ?_⟩
       skip
       refine ⟨_, wrap_byte _, ?_⟩
       repeat' ((try conv => whnf); first|refine aq rfl ?_|refine s4 nm ?_|refine aq bd ?_|refine ⟨_, set_map _ _ _, ?_⟩|fail)
       exact ⟨i + 1, Le.of (by (repeat' (first|exact trivial|refine aq ?_ ?_|exact oq|fail))) (by (repeat' (first|exact trivial|exact rfl|refine aq ?_ ?_|fail)); exact rowEq (congrArg (List.map bR) (lenI_step hBl hi2 (by omega)))) rfl rfl rfl, by omega, by omega⟩
     · have ei : i = 8 := by omega
       subst ei
       refine code_sound (more := more6 false _ _) more6_ok FOK.wide _ ?_
       repeat' ((try conv => whnf); first|refine aq rfl ?_|refine aq bd ?_|fail)
       refine .inr ⟨[(200, 300), (201, 4)], [.loc 200 0 0, .lsl 201 0 64], [(200, some (.row 1 ((st).map wR))), (201, some (.row 1 ((lenI (B) N 8).map bR)))], [200, 201], [200, 201], 0, _, absorb_spec (st) (lenI (B) N 8) hst hll, ⟨Or.inl rfl, Or.inl rfl, trivial⟩, ⟨rfl, rfl, trivial⟩, ?_⟩
       skip
       rw [hfin2]
       exact Le.of (by (repeat' (first|exact trivial|fail))) (by (repeat' (first|exact trivial|exact rfl|refine aq ?_ ?_|fail))) rfl rfl rfl
end Go.Proofs.YtjfjpnefohbobaaGreatDoor
/- Digest: hash, Tagged. Conditions: none. -/
namespace Go.Proofs.YtjfjpnefohbobaaGreatDoor
open Go.Avc
theorem sha_eq (l : List UInt8) : sha l = dig (shaS l) := rfl
theorem shaFin_H (l : List UInt8) : shaFin shaH l = shaS l := rfl
attribute [local irreducible] PSub Wp PSpec Le Need Both
attribute [local irreducible] shaBlock shaFin shaS dig digI sha tagged
theorem hash_spec (parts : List (List UInt8)) (rows : List (List PV)) (hp : parts.length ≤ 1000) (hl : parts.flatten.length ≤ 1000000) (hr : rows = parts.map fun p => [encB p]) : PSpec Tryz.prog 145 [.sl 1 rows] (.agg (dcells (sha parts.flatten))) := by
 have hS8 := shaS_len parts.flatten
 have hfin := shaFin_H parts.flatten
 obtain ⟨S, hS⟩ : ∃ S, S = shaS parts.flatten := ⟨_, rfl⟩
 rw [← hS] at hS8 hfin
 refine PSpec.of_vc (fun Γ => more6 false Γ.P Γ.fx) (fun Γ => more6_ok) Tryz.func145 rfl Tryz.call145 (by simp) ?_
 rintro ⟨P, N, w0, X, β0, fx, y, hy, pk, df⟩ rfl rfl rfl hoff rfl; change y.on = false at hoff
 repeat' ((try conv => whnf); first|refine aq rfl ?_|refine .inr ⟨rfl, rfl, rfl, ?_⟩|fail)
 refine .inr ⟨[(300, 3)], [.fn (151 + bmB) [.loc 300 0 0], .pure (encParts parts)], [(300, some (.row 1 (shaH.map wR)))], [300], [300], 0, _, blocks_spec shaH parts rfl hp hl, ⟨Or.inl rfl, Or.inl (by rw [hr]; rfl), trivial⟩, ⟨rfl, trivial⟩, ?_⟩
 skip
 rw [hfin]
 refine Wp.loop (fun i : Nat => ⟨[(2, .loc 2 0 0), (3, .loc 3 0 0), (9, .int i)], [(3, some (.row 1 (S.map wR))), (2, some (.row 1 ((digI S i).map bR)))], [3, 2]⟩) (fun i => i ≤ 32) (fun i => 32 - i) 0 (Le.of ?_ ?_ rfl rfl rfl) (by omega) ?_
 · (repeat' (first|exact trivial|refine aq ?_ ?_|exact oq|fail))
 · (repeat' (first|exact trivial|exact rfl|refine aq ?_ ?_|fail))
   all_goals exact rowEq (by rw [digI_zero]; rfl)
 intro i hi
 have hd := digI_len (s := S) hi
 by_cases hi2 : i < 32
 · refine code_sound (more := more6 false _ _) more6_ok FOK.wide _ ?_
   repeat' ((try conv => whnf); first|(first|refine k3 ?_ ?_|refine k4 ?_ ?_) <;> intro hb <;> (try rw [lM] at hb) <;> try (exfalso; omega)|refine aq bd ?_|fail)
   refine ⟨((i / 4 : Nat) : Int), by rw [show ((i : Int)).tdiv 4 = ((i / 4 : Nat) : Int) from (Int.ofNat_tdiv i 4).symm]; exact wI (by omega), ?_⟩
   repeat' ((try conv => whnf); first|refine aq rfl ?_|refine aq bd ?_|refine ⟨_, _, getMapN nm, rfl, ?_⟩|fail)
   refine ⟨((i % 4 : Nat) : Int), (Int.ofNat_tmod i 4).symm, ?_⟩
   repeat' ((try conv => whnf); first|refine s4 nm ?_|refine aq bd ?_|fail)
   refine ⟨_, rfl, ?_⟩
   skip
   refine ⟨_, rfl, ?_⟩
   repeat' ((try conv => whnf); first|refine aq rfl ?_|refine s4 nm ?_|refine aq bd ?_|refine ⟨_, set_rfl _ _ _, ?_⟩|fail)
   exact ⟨i + 1, Le.of (by (repeat' (first|exact trivial|refine aq ?_ ?_|exact oq|fail))) (by (repeat' (first|exact trivial|exact rfl|refine aq ?_ ?_|fail)); exact rowEq (digI_step hi2 (by omega) (by omega) (by omega) rfl rfl)) rfl rfl rfl, by omega, by omega⟩
 · have ei : i = 32 := by omega
   subst ei
   rw [digI_all]
   have hdl := dig_len S
   refine code_sound (more := more6 false _ _) more6_ok FOK.wide _ ?_
   skip
   refine .inr ⟨rfl, rfl, by rw [List.length_map, hdl]; rfl, ?_⟩
   repeat' ((try conv => whnf); first|refine .inr ⟨rfl, rfl, rfl, ?_⟩|fail)
   refine ⟨by rw [bflat_len, hdl, List.length_map, hdl], bflat_ones _, by rw [bflat_len, hdl]; rfl, _, bflat_sg _, ?_⟩
   skip
   refine .inr ⟨rfl, rfl, by rw [List.length_map, hdl]; rfl, ?_⟩
   skip
   exact PSub.of_eq (by rw [dcells_eq hdl, sha_eq, hS])
theorem tagged_spec (t : ByteArray) (b : List UInt8) (ht : t.size ≤ 1000) (hb0 : b.length ≤ 900000) : PSpec Tryz.prog 126 [.val (.string t), encB b] (.agg (dcells (tagged t.data.toList b))) := by
 have h1 := sha_len t.data.toList
 have hsz : t.data.toList.length = t.size := by simp
 refine PSpec.of_vc (fun Γ => more6 false Γ.P Γ.fx) (fun Γ => more6_ok) Tryz.func126 rfl Tryz.call126 (by simp) ?_
 rintro ⟨P, N, w0, X, β0, fx, y, hy, pk, df⟩ rfl rfl rfl hoff rfl; change y.on = false at hoff
 repeat' ((try conv => whnf); first|refine aq bd ?_|fail)
 refine .inl ⟨_, hash_spec [t.data.toList] _ (by simp) (by simp; omega) (by rw [List.drop_zero, List.drop_zero]; simp [encB, byteRows, List.take_of_length_le]), ?_⟩
 repeat' ((try conv => whnf); first|refine aq rfl ?_|refine aq bd ?_|refine .inr ⟨rfl, rfl, rfl, ?_⟩|refine ⟨_, singles_rfl _, ?_⟩|fail)
 have e : PV.sl 1 (List.take (32 - 0) (List.drop 0 (singles (dcells (sha [t.data.toList].flatten))))) = encB (sha t.data.toList) := by
   rw [show [t.data.toList].flatten = t.data.toList by simp, dcells_sing h1, List.drop_zero, List.take_of_length_le (by simp [h1]), encB_rows]
 refine .inl ⟨_, hash_spec [sha t.data.toList, b] _ (by simp) (by simp; omega) (by simp only [List.map_cons, List.map_nil]; rw [← e]; rfl), ?_⟩
 repeat' ((try conv => whnf); first|refine aq rfl ?_|refine .inr ⟨rfl, rfl, rfl, ?_⟩|refine ⟨_, singles_rfl _, ?_⟩|fail)
 exact PSub.of_eq (by rw [tagged_eq, show [sha t.data.toList, b].flatten = sha t.data.toList ++ b by simp]; rfl)
end Go.Proofs.YtjfjpnefohbobaaGreatDoor
