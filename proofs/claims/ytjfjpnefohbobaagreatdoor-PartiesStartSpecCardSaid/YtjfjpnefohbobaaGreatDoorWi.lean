/- Words of 32 bits: what the operations on them yield. Conditions: none. -/
import Derived.Test.YtjfjpnefohbobaaGreatDoorWd
import Derived.Test.YtjfjpnefohbobaaGreatDoorWa
import Derived.Test.YtjfjpnefohbobaaGreatDoorWe
set_option linter.unusedSimpArgs false
set_option linter.unusedVariables false
set_option maxRecDepth 20000
set_option maxHeartbeats 4000000
namespace Go.Avc
def wU (x : UInt32) : PV := .val (.int .u32 (x.toNat : Int))
theorem u32_lt (x : UInt32) : x.toNat < 4294967296 := UInt32.toNat_lt x
theorem u32_ofNat {n : Nat} (h : n < 4294967296) : ((UInt32.ofNat n).toNat : Int) = (n : Int) := by
 rw [UInt32.toNat_ofNat']; omega
theorem u8_ofNat {n : Nat} (h : n < 256) : ((UInt8.ofNat n).toNat : Int) = (n : Int) := by
 rw [UInt8.toNat_ofNat']; omega
section
variable {K : Int → Prop} {x y : UInt32} {b : UInt8} {n : Nat}
theorem u1 (h : K ((x + y).toNat : Nat)) : ∃ r, IntKind.u32.wrap ((x.toNat : Int) + (y.toNat : Int)) = r ∧ K r :=
 ⟨_, by rw [IntKind.wrap_u32, UInt32.toNat_add]; omega, h⟩
theorem u2 (h : K ((x ^^^ y).toNat : Nat)) : ∃ r, bits .xor .u32 (x.toNat : Int) (y.toNat : Int) = r ∧ K r :=
 ⟨_, by rw [xor_u32 (u32_lt x) (u32_lt y), UInt32.toNat_xor], h⟩
theorem u3 (h : K ((x &&& y).toNat : Nat)) : ∃ r, bits .and .u32 (x.toNat : Int) (y.toNat : Int) = r ∧ K r :=
 ⟨_, by rw [(bits_nat .u32 32 (by decide) wraps_u32 _ _ (u32_lt x) (u32_lt y)).1, UInt32.toNat_and], h⟩
theorem u4 (h : K ((4294967295 ^^^ x).toNat : Nat)) : ∃ r, bits .xor .u32 (if IntKind.u32.signed = true then -1 else IntKind.u32.max) (x.toNat : Int) = r ∧ K r :=
 ⟨_, by
   have := xor_u32 (a := 4294967295) (b := x.toNat) (by decide) (u32_lt x)
   rw [UInt32.toNat_xor]
   exact this, h⟩
theorem shr_u32 (x : UInt32) (n : Nat) (hn : n < 32) : (x.toNat : Int).fdiv (2 ^ (min n IntKind.u32.bits)) = ((x >>> UInt32.ofNat n).toNat : Int) := by
 have e := shr_nat x.toNat n 32 (by omega)
 rw [Int.toNat_natCast] at e
 rw [show IntKind.u32.bits = 32 from rfl, e, UInt32.toNat_shiftRight, UInt32.toNat_ofNat', Nat.shiftRight_eq_div_pow]
 rw [show n % 2 ^ 32 % 32 = n by omega]
theorem u5 (h : K ((x >>> 3).toNat : Nat)) : ∃ r, (x.toNat : Int).fdiv (2 ^ (min (Int.toNat 3) IntKind.u32.bits)) = r ∧ K r := ⟨_, shr_u32 x 3 (by decide), h⟩
theorem u6 (h : K ((x >>> 10).toNat : Nat)) : ∃ r, (x.toNat : Int).fdiv (2 ^ (min (Int.toNat 10) IntKind.u32.bits)) = r ∧ K r := ⟨_, shr_u32 x 10 (by decide), h⟩
theorem u8 {b : UInt8} {m : Nat} (hm : m < 16777216) : bits .or .u32 (IntKind.u32.wrap (((UInt32.ofNat m).toNat : Int) * 2 ^ (min (Int.toNat 8) IntKind.u32.bits))) (b.toNat : Int) = ((UInt32.ofNat (m * 256 + b.toNat)).toNat : Int) := by
 have hb := UInt8.toNat_lt b
 rw [u32_ofNat (by omega), u32_ofNat (n := m * 256 + b.toNat) (by omega)]
 have e : (2 : Int) ^ (min (Int.toNat 8) IntKind.u32.bits) = 256 := by decide
 rw [e, IntKind.wrap_u32]
 have e2 : ((m : Int) * 256) % 4294967296 = ((m * 256 : Nat) : Int) := by omega
 rw [e2]
 exact or_u32 8 (by omega) (by omega) (by omega) (by decide)
end
end Go.Avc
/- Digest: SHA-256 in plain terms; taking in parts one after the other is the same as padding the whole. Conditions: none. -/
namespace Go.Proofs.YtjfjpnefohbobaaGreatDoor
def rotr (x : UInt32) (n : Nat) : UInt32 := UInt32.ofNat ((x.toNat / 2 ^ n) ||| (x.toNat * 2 ^ (32 - n) % 4294967296))
def shaK : List UInt32 := Go.Avc.sha256K.map UInt32.ofNat
def shaH : List UInt32 := [0x6a09e667, 0xbb67ae85, 0x3c6ef372, 0xa54ff53a, 0x510e527f, 0x9b05688c, 0x1f83d9ab, 0x5be0cd19]
def wordI (b : List UInt8) (t : Nat) : Nat → Nat
 | 0 => 0
 | i + 1 => wordI b t i * 256 + (b.getD (4 * t + i) 0).toNat
def word4 (b : List UInt8) (t : Nat) : UInt32 := UInt32.ofNat (wordI b t 4)
def sig0 (x : UInt32) : UInt32 := rotr x 7 ^^^ rotr x 18 ^^^ (x >>> 3)
def sig1 (y : UInt32) : UInt32 := rotr y 17 ^^^ rotr y 19 ^^^ (y >>> 10)
def wnext (w : List UInt32) (t : Nat) : UInt32 := w.getD (t - 16) 0 + sig0 (w.getD (t - 15) 0) + w.getD (t - 7) 0 + sig1 (w.getD (t - 2) 0)
def sched (b : List UInt8) : Nat → List UInt32
 | 0 => []
 | t + 1 => sched b t ++ [if t < 16 then word4 b t else wnext (sched b t) t]
def rP (k w e f g h : UInt32) : UInt32 := h + (rotr e 6 ^^^ rotr e 11 ^^^ rotr e 25) + ((e &&& f) ^^^ ((4294967295 ^^^ e) &&& g)) + k + w
def rQ (a b c : UInt32) : UInt32 := (rotr a 2 ^^^ rotr a 13 ^^^ rotr a 22) + ((a &&& b) ^^^ (a &&& c) ^^^ (b &&& c))
def shaRound (k w : UInt32) (v : List UInt32) : List UInt32 :=
 let p := rP k w (v.getD 4 0) (v.getD 5 0) (v.getD 6 0) (v.getD 7 0)
 [p + rQ (v.getD 0 0) (v.getD 1 0) (v.getD 2 0), v.getD 0 0, v.getD 1 0, v.getD 2 0, v.getD 3 0 + p, v.getD 4 0, v.getD 5 0, v.getD 6 0]
def rounds (s w : List UInt32) : Nat → List UInt32
 | 0 => s
 | t + 1 => shaRound (shaK.getD t 0) (w.getD t 0) (rounds s w t)
def addW (s v : List UInt32) : List UInt32 := (List.range 8).map fun i => s.getD i 0 + v.getD i 0
def shaBlock (s : List UInt32) (b : List UInt8) : List UInt32 := addW s (rounds s (sched b 64) 64)
theorem shaBlock_len (s : List UInt32) (b : List UInt8) : (shaBlock s b).length = 8 := by simp [shaBlock, addW]
theorem rounds_len (s w : List UInt32) (hs : s.length = 8) : ∀ t, (rounds s w t).length = 8
 | 0 => hs
 | _ + 1 => rfl
theorem sched_len (b : List UInt8) : ∀ t, (sched b t).length = t
 | 0 => rfl
 | t + 1 => by simp [sched, sched_len b t]
def shaRun (s : List UInt32) (l : List UInt8) : List UInt32 × List UInt8 :=
 if l.length < 64 then (s, l) else shaRun (shaBlock s (l.take 64)) (l.drop 64)
termination_by l.length
decreasing_by simp; omega
theorem shaRun_small {s : List UInt32} {l : List UInt8} (h : l.length < 64) : shaRun s l = (s, l) := by rw [shaRun, if_pos h]
theorem shaRun_big {s : List UInt32} {l : List UInt8} (h : 64 ≤ l.length) : shaRun s l = shaRun (shaBlock s (l.take 64)) (l.drop 64) := by rw [shaRun, if_neg (by omega)]
theorem shaRun_app : ∀ (n : Nat) (s : List UInt32) (a b : List UInt8), a.length ≤ n → shaRun s (a ++ b) = shaRun (shaRun s a).1 ((shaRun s a).2 ++ b) := by
 intro n
 induction n with
 | zero =>
   intro s a b h
   rw [shaRun_small (l := a) (by omega)]
 | succ n ih =>
   intro s a b h
   by_cases h64 : a.length < 64
   · rw [shaRun_small h64]
   · rw [shaRun_big (l := a) (by omega), shaRun_big (l := a ++ b) (by simp; omega)]
     rw [List.take_append_of_le_length (by omega), List.drop_append_of_le_length (by omega)]
     exact ih _ _ _ (by simp; omega)
theorem shaRun_len : ∀ (n : Nat) (s : List UInt32) (a : List UInt8), a.length ≤ n → (shaRun s a).2.length = a.length % 64 := by
 intro n
 induction n with
 | zero => intro s a h; rw [shaRun_small (by omega)]; simp only; omega
 | succ n ih =>
   intro s a h
   by_cases h64 : a.length < 64
   · rw [shaRun_small h64]; simp only; omega
   · rw [shaRun_big (by omega), ih _ _ (by simp; omega), List.length_drop]; omega
theorem shaRun_st : ∀ (n : Nat) (s : List UInt32) (a : List UInt8), a.length ≤ n → s.length = 8 → (shaRun s a).1.length = 8 := by
 intro n
 induction n with
 | zero => intro s a h hs; rw [shaRun_small (by omega)]; exact hs
 | succ n ih =>
   intro s a h hs
   by_cases h64 : a.length < 64
   · rw [shaRun_small h64]; exact hs
   · rw [shaRun_big (by omega)]; exact ih _ _ (by simp; omega) (shaBlock_len _ _)
def be8 (n : Nat) : List UInt8 := (List.range 8).map fun i => UInt8.ofNat (n / 256 ^ (7 - i) % 256)
theorem be8_len (n : Nat) : (be8 n).length = 8 := by simp [be8]
def shaEnd (s : List UInt32) (r : List UInt8) (n : Nat) : List UInt32 :=
 if r.length + 1 ≤ 56 then shaBlock s (r ++ 128 :: (List.replicate (55 - r.length) 0 ++ be8 (8 * n)))
 else shaBlock (shaBlock s (r ++ 128 :: List.replicate (63 - r.length) 0)) (List.replicate 56 0 ++ be8 (8 * n))
def padN (n : Nat) : Nat := (119 - n % 64) % 64
def padded (l : List UInt8) : List UInt8 := l ++ 128 :: (List.replicate (padN l.length) 0 ++ be8 (8 * l.length))
def shaS (l : List UInt8) : List UInt32 := let x := shaRun shaH l; shaEnd x.1 x.2 l.length
theorem shaS_len (l : List UInt8) : (shaS l).length = 8 := by
 unfold shaS shaEnd
 dsimp only
 split <;> exact shaBlock_len _ _
theorem shaRun_one {s : List UInt32} {b : List UInt8} (h : b.length = 64) : shaRun s b = (shaBlock s b, []) := by
 rw [shaRun_big (by omega), List.take_of_length_le (by omega), List.drop_eq_nil_of_le (by omega), shaRun_small (by decide)]
theorem padded_len (l : List UInt8) : (padded l).length % 64 = 0 := by
 unfold padded padN
 simp only [List.length_append, List.length_cons, List.length_replicate, be8_len]; omega
theorem shaS_padded (l : List UInt8) : shaRun shaH (padded l) = (shaS l, []) := by
 unfold padded shaS shaEnd
 rw [shaRun_app _ _ _ _ (Nat.le_refl _)]
 have hr := shaRun_len _ shaH l (Nat.le_refl _)
 dsimp only
 obtain ⟨⟨s, r⟩, e⟩ : ∃ x, x = shaRun shaH l := ⟨_, rfl⟩
 rw [← e] at hr ⊢
 dsimp only at hr ⊢
 split
 · rename_i h
   rw [show padN l.length = 55 - r.length by unfold padN; omega]
   exact shaRun_one (by simp only [List.length_append, List.length_cons, List.length_replicate, be8_len]; omega)
 · rename_i h
   have e1 : r ++ 128 :: (List.replicate (padN l.length) 0 ++ be8 (8 * l.length)) = (r ++ 128 :: List.replicate (63 - r.length) 0) ++ (List.replicate 56 0 ++ be8 (8 * l.length)) := by
     rw [show padN l.length = (63 - r.length) + 56 by unfold padN; omega, ← List.replicate_append_replicate]
     simp
   rw [e1, shaRun_app _ _ _ _ (Nat.le_refl _), shaRun_one (b := r ++ 128 :: List.replicate (63 - r.length) 0) (by simp only [List.length_append, List.length_cons, List.length_replicate]; omega)]
   dsimp only
   rw [List.nil_append]
   exact shaRun_one (by simp only [List.length_append, List.length_replicate, be8_len])
def dig (s : List UInt32) : List UInt8 := (List.range 32).map fun i => UInt8.ofNat ((s.getD (i / 4) 0).toNat / 2 ^ (24 - 8 * (i % 4)) % 256)
def sha (l : List UInt8) : List UInt8 := dig (shaS l)
def tagged (t b : List UInt8) : List UInt8 := sha (sha t ++ b)
theorem dig_len (s : List UInt32) : (dig s).length = 32 := by simp [dig]
theorem sha_len (l : List UInt8) : (sha l).length = 32 := dig_len _
end Go.Proofs.YtjfjpnefohbobaaGreatDoor
/- Digest: turning a word. Conditions: none. -/
namespace Go.Proofs.YtjfjpnefohbobaaGreatDoor
open Go.Avc
theorem andN : ∀ n : Fin 32, 1 ≤ n.val → bits .and .u64 (18446744073709551616 - (n.val : Int)) 31 = 32 - (n.val : Int) := by decide +kernel
theorem shl_rot (x : UInt32) (n : Nat) (h1 : 1 ≤ n) (h2 : n ≤ 31) : IntKind.u32.wrap ((x.toNat : Int) * 2 ^ (min (32 - (n : Int)).toNat IntKind.u32.bits)) = ((x.toNat * 2 ^ (32 - n) % 4294967296 : Nat) : Int) := by
 rw [show (32 - (n : Int)).toNat = 32 - n by omega, show IntKind.u32.bits = 32 from rfl, Nat.min_eq_left (by omega), IntKind.wrap_u32]
 have : (2 : Int) ^ (32 - n) = ((2 ^ (32 - n) : Nat) : Int) := by simp
 rw [this]
 omega
theorem shr_rot (x : UInt32) (n : Nat) (h2 : n ≤ 31) : (x.toNat : Int).fdiv (2 ^ (min n IntKind.u32.bits)) = ((x.toNat / 2 ^ n : Nat) : Int) := by
 have := shr_nat x.toNat n 32 (by omega)
 rwa [Int.toNat_natCast] at this
theorem or_rot (x : UInt32) (n : Nat) (h1 : 1 ≤ n) : bits .or .u32 ((x.toNat * 2 ^ (32 - n) % 4294967296 : Nat) : Int) ((x.toNat / 2 ^ n : Nat) : Int) = ((rotr x n).toNat : Int) := by
 have hx := u32_lt x
 have h3 : x.toNat / 2 ^ n < 4294967296 := Nat.lt_of_le_of_lt (Nat.div_le_self _ _) hx
 have h4 : x.toNat * 2 ^ (32 - n) % 4294967296 < 4294967296 := Nat.mod_lt _ (by decide)
 rw [(bits_nat .u32 32 (by decide) wraps_u32 _ _ h4 h3).2]
 unfold rotr
 rw [Nat.or_comm, u32_ofNat (Nat.or_lt_two_pow (n := 32) h3 h4)]
theorem or_rot' (x : UInt32) (n : Nat) (h1 : 1 ≤ n) : bits .or .u32 ((x.toNat / 2 ^ n : Nat) : Int) ((x.toNat * 2 ^ (32 - n) % 4294967296 : Nat) : Int) = ((rotr x n).toNat : Int) := by
 have hx := u32_lt x
 have h3 : x.toNat / 2 ^ n < 4294967296 := Nat.lt_of_le_of_lt (Nat.div_le_self _ _) hx
 have h4 : x.toNat * 2 ^ (32 - n) % 4294967296 < 4294967296 := Nat.mod_lt _ (by decide)
 rw [(bits_nat .u32 32 (by decide) wraps_u32 _ _ h3 h4).2]
 unfold rotr
 rw [u32_ofNat (Nat.or_lt_two_pow (n := 32) h3 h4)]
attribute [local irreducible] PSub Wp PSpec Le Need Both
theorem rotl_spec (x : UInt32) (n : Nat) (h1 : 1 ≤ n) (h2 : n ≤ 31) : PSpec Tryz.prog 154 [wU x, .int (-(n : Int))] (wU (rotr x n)) := by
 refine PSpec.of_vc (fun Γ => more6 false Γ.P Γ.fx) (fun Γ => more6_ok) Tryz.func154 rfl Tryz.call154 (by simp) ?_
 rintro ⟨P, N, w0, X, β0, fx, y, hy, pk, df⟩ rfl rfl rfl hoff rfl; change y.on = false at hoff
 skip
 refine ⟨18446744073709551616 - (n : Int), by rw [wrap_u64]; omega, ?_⟩
 skip
 refine ⟨_, andN ⟨n, by omega⟩ h1, ?_⟩
 repeat' ((try conv => whnf); first|refine aq bd ?_|fail)
 refine ⟨_, shl_rot x n h1 h2, ?_⟩
 skip
 refine ⟨(n : Int), by rw [wrap_u64]; show (32 - (32 - (n : Int))) % _ = _; omega, ?_⟩
 repeat' ((try conv => whnf); first|refine aq bd ?_|fail)
 refine ⟨_, shr_rot x n h2, ?_⟩
 skip
 refine ⟨_, or_rot x n h1, ?_⟩
 skip
 exact PSub.refl _
theorem ror_spec (x : UInt32) (n : Nat) (h1 : 1 ≤ n) (h2 : n ≤ 31) : PSpec Tryz.prog 156 [wU x, .int n] (wU (rotr x n)) := by
 refine PSpec.of_vc (fun Γ => more6 false Γ.P Γ.fx) (fun Γ => more6_ok) Tryz.func156 rfl Tryz.call156 (by simp) ?_
 rintro ⟨P, N, w0, X, β0, fx, y, hy, pk, df⟩ rfl rfl rfl hoff rfl; change y.on = false at hoff
 skip
 refine Wp.draw (more := more6 true _ _) more6_det more6_ok FOK.wide rfl (by decide +kernel) (by conv => lhs; reduce) ?_
 repeat' ((try conv => whnf); first|refine aq bd ?_|fail)
 refine ⟨_, shr_rot x n h2, ?_⟩
 repeat' ((try conv => whnf); first|refine s4 nm ?_|refine aq bd ?_|fail)
 refine ⟨_, shl_rot x n h1 h2, ?_⟩
 skip
 refine ⟨_, or_rot' x n h1, ?_⟩
 skip
 exact PSub.refl _
theorem numbers_spec : PSpec Tryz.prog 157 [] (.agg (shaK.map wU)) := by
 refine PSpec.of_vc (fun Γ => more6 false Γ.P Γ.fx) (fun Γ => more6_ok) Tryz.func157 rfl Tryz.call157 (by simp) ?_
 rintro ⟨P, N, w0, X, β0, fx, y, hy, pk, df⟩ rfl rfl rfl hoff rfl; change y.on = false at hoff
 repeat' ((try conv => whnf); first|refine aq rfl ?_|refine .inr ⟨rfl, rfl, rfl, ?_⟩|fail)
 exact PSub.of_eq (by kernel_rfl)
theorem shaK_len : shaK.length = 64 := by decide +kernel
theorem glob0 : globAt Tryz.prog 0 = some (1, shaK.map fun x => [wU x]) := by kernel_rfl
theorem word4_eq (b : List UInt8) (t : Nat) : word4 b t = UInt32.ofNat ((b.getD (4 * t) 0).toNat * 16777216 + (b.getD (4 * t + 1) 0).toNat * 65536 + (b.getD (4 * t + 2) 0).toNat * 256 + (b.getD (4 * t + 3) 0).toNat) := by
 unfold word4
 congr 1
 simp only [wordI, Nat.add_zero]
 omega
theorem word_spec (b0 b1 b2 b3 : UInt8) : PSpec Tryz.prog 155 [encB [b0, b1, b2, b3]] (wU (word4 [b0, b1, b2, b3] 0)) := by
 refine PSpec.of_vc (fun Γ => more6 false Γ.P Γ.fx) (fun Γ => more6_ok) Tryz.func155 rfl Tryz.call155 (by simp) ?_
 rintro ⟨P, N, w0, X, β0, fx, y, hy, pk, df⟩ rfl rfl rfl hoff rfl; change y.on = false at hoff
 skip
 refine Wp.draw (more := more6 true _ _) more6_det more6_ok FOK.wide rfl (by decide +kernel) (by conv => lhs; reduce) ?_
 repeat' ((try conv => whnf); first|refine s2 ?_|refine s5 nm nm ?_|refine aq bd ?_|fail)
 refine ⟨_, shl24 _, ?_⟩
 repeat' ((try conv => whnf); first|refine s2 ?_|refine s5 nm nm ?_|refine aq bd ?_|fail)
 refine ⟨_, shl16 _, ?_⟩
 skip
 refine ⟨_, or24 _ _, ?_⟩
 repeat' ((try conv => whnf); first|refine s2 ?_|refine s5 nm nm ?_|refine aq bd ?_|fail)
 refine ⟨_, shl8 _, ?_⟩
 skip
 refine ⟨_, or16 _ _ _, ?_⟩
 repeat' ((try conv => whnf); first|refine s2 ?_|refine s5 nm nm ?_|fail)
 refine ⟨_, or8 _ _ _ _, ?_⟩
 skip
 refine PSub.val_int ?_
 rw [word4_eq, u32_ofNat]
 · rfl
 · have := UInt8.toNat_lt b0; have := UInt8.toNat_lt b1; have := UInt8.toNat_lt b2; have := UInt8.toNat_lt b3
   simp only [List.getD_eq_getElem?_getD, Nat.mul_zero, Nat.zero_add, List.getElem?_cons_zero, List.getElem?_cons_succ, Option.getD_some]
   omega
end Go.Proofs.YtjfjpnefohbobaaGreatDoor
/- Digest: a block is taken in. Conditions: none. -/
namespace Go.Proofs.YtjfjpnefohbobaaGreatDoor
open Go.Avc
abbrev wR (x : UInt32) : List PV := [.val (.int .u32 (x.toNat : Int))]
abbrev bR (b : UInt8) : List PV := [.val (.int .u8 (b.toNat : Int))]
def schW (b : List UInt8) (k : Nat) : List UInt32 := sched b k ++ List.replicate (64 - k) 0
theorem schW_len {b : List UInt8} {k : Nat} (h : k ≤ 64) : (schW b k).length = 64 := by simp [schW, sched_len]; omega
theorem schW_nil (b : List UInt8) : schW b 0 = List.replicate 64 0 := rfl
def schI (b : List UInt8) (k i : Nat) : List UInt32 := (schW b k).set k (UInt32.ofNat (wordI b k i))
theorem schI_len {b : List UInt8} {k i : Nat} (h : k ≤ 64) : (schI b k i).length = 64 := by simp [schI, schW_len h]
theorem schW_zero {b : List UInt8} {k : Nat} (h : k < 64) : schI b k 0 = schW b k := by
 unfold schI schW wordI
 rw [List.set_append, if_neg (by rw [sched_len]; omega), sched_len, Nat.sub_self]
 obtain ⟨m, hm⟩ : ∃ m, 64 - k = m + 1 := ⟨63 - k, by omega⟩
 rw [hm]
 rfl
theorem schW_next {b : List UInt8} {k : Nat} (h : k < 64) (x : UInt32) : (schW b k).set k x = sched b k ++ x :: List.replicate (64 - (k + 1)) 0 := by
 unfold schW
 rw [List.set_append, if_neg (by rw [sched_len]; omega), sched_len, Nat.sub_self]
 obtain ⟨m, hm⟩ : ∃ m, 64 - k = m + 1 := ⟨63 - k, by omega⟩
 rw [hm, show 64 - (k + 1) = m by omega]
 rfl
theorem schW_16 {b : List UInt8} {k : Nat} (h : k < 16) : schI b k 4 = schW b (k + 1) := by
 unfold schI
 rw [schW_next (by omega)]
 unfold schW
 rw [show sched b (k + 1) = sched b k ++ [word4 b k] by simp [sched, h], List.append_assoc]
 rfl
theorem schI_at {b : List UInt8} {k i : Nat} (h : k < 64) (hk : k < (schI b k i).length) : (schI b k i)[k]'hk = UInt32.ofNat (wordI b k i) := by simp [schI]
theorem wordI_lt (b : List UInt8) (t : Nat) : ∀ i, wordI b t i < 256 ^ i
 | 0 => by simp [wordI]
 | i + 1 => by
   have h1 := wordI_lt b t i
   have h2 := UInt8.toNat_lt (b.getD (4 * t + i) 0)
   simp only [wordI, Nat.pow_succ]
   omega
theorem wordI_lt3 {b : List UInt8} {k i : Nat} (h : i < 4) : wordI b k i < 16777216 := Nat.lt_of_lt_of_le (wordI_lt b k i) (Nat.pow_le_pow_right (by decide) (show i ≤ 3 by omega))
theorem shl8x {x : UInt32} {m : Nat} (hx : x = UInt32.ofNat m) (hm : m < 16777216) : IntKind.u32.wrap ((x.toNat : Int) * 2 ^ (min (Int.toNat 8) IntKind.u32.bits)) = ((m * 256 : Nat) : Int) := by
 subst hx
 rw [u32_ofNat (by omega), IntKind.wrap_u32]
 have e : (2 : Int) ^ (min (Int.toNat 8) IntKind.u32.bits) = 256 := by decide
 rw [e]
 omega
theorem or8x {m : Nat} (hm : m < 16777216) (b : UInt8) : bits .or .u32 ((m * 256 : Nat) : Int) (b.toNat : Int) = ((m * 256 + b.toNat : Nat) : Int) := by
 have hb := UInt8.toNat_lt b
 exact or_u32 8 (by omega) (by omega) (by omega) (by decide)
theorem row_set {α : Type} {f : α → List PV} {l m : List α} {k : Nat} {x : α} {p : List PV} (hp : p = f x) (h : l.set k x = m) : (l.map f).set k p = m.map f := by
 rw [hp, ← h, List.map_set]
theorem schI_step {b : List UInt8} {k i j n : Nat} (hj : j = k) (hn : n = 4 * k + i) (hi : i < 4) (h : n < b.length) : ((schI b k i).map wR).set j [.val (.int .u32 ((wordI b k i * 256 + (b[n]'h).toNat : Nat) : Int))] = (schI b k (i + 1)).map wR := by
 subst hj hn
 refine row_set (x := UInt32.ofNat (wordI b j (i + 1))) ?_ (by unfold schI; rw [List.set_set])
 have h1 : wordI b j (i + 1) = wordI b j i * 256 + (b[4 * j + i]'h).toNat := by
   simp only [wordI, List.getD_eq_getElem?_getD, List.getElem?_eq_getElem h, Option.getD_some]
 have h2 := wordI_lt b j (i + 1)
 have h3 : 256 ^ (i + 1) ≤ 256 ^ 4 := Nat.pow_le_pow_right (by decide) (by omega)
 rw [wR, u32_ofNat (by omega), h1]
theorem schW_get {b : List UInt8} {k j : Nat} (hj : j < k) (h : j < (schW b k).length) : (schW b k)[j]'h = (sched b k).getD j 0 := by
 have h1 : j < (sched b k).length := by rw [sched_len]; exact hj
 rw [List.getD_eq_getElem?_getD, List.getElem?_eq_getElem h1, Option.getD_some]
 simp only [schW]
 rw [List.getElem_append_left h1]
theorem schW_step {b : List UInt8} {k j : Nat} {v : UInt32} (h1 : 16 ≤ k) (h2 : k < 64) (hj : j = k) (hv : v = wnext (sched b k) k) : ((schW b k).map wR).set j (wR v) = (schW b (k + 1)).map wR := by
 subst hj
 refine row_set (x := v) rfl ?_
 rw [schW_next h2]
 unfold schW
 rw [show sched b (j + 1) = sched b j ++ [wnext (sched b j) j] by simp [sched, show ¬ j < 16 by omega], List.append_assoc, hv]
 rfl
theorem wflat_len (s : List UInt32) : (s.map wR).flatten.length = s.length := flat_len (fun x : UInt32 => PV.val (.int .u32 (x.toNat : Int))) s
theorem wflat_ones (s : List UInt32) : onesB (s.map wR).flatten = true := onesB_flat (fun x : UInt32 => PV.val (.int .u32 (x.toNat : Int))) s fun _ => rfl
theorem wflat_sg (s : List UInt32) : singles (s.map wR).flatten = s.map wR := singles_flat (fun x : UInt32 => PV.val (.int .u32 (x.toNat : Int))) s
theorem rounds_zero (s w : List UInt32) : rounds s w 0 = s := rfl
theorem rounds_succ (s w : List UInt32) (t : Nat) : rounds s w (t + 1) = shaRound (shaK.getD t 0) (w.getD t 0) (rounds s w t) := rfl
theorem getD_of {α : Type} (l : List α) (d : α) (i : Nat) (h : i < l.length) : l[i]'h = l.getD i d := by
 rw [List.getD_eq_getElem?_getD, List.getElem?_eq_getElem h, Option.getD_some]
theorem schW_all (b : List UInt8) : schW b 64 = sched b 64 := by simp [schW]
def addI (s v : List UInt32) (i : Nat) : List UInt32 := (List.range 8).map fun j => if j < i then s.getD j 0 + v.getD j 0 else s.getD j 0
theorem addI_len (s v : List UInt32) (i : Nat) : (addI s v i).length = 8 := by simp [addI]
theorem addI_zero {s v : List UInt32} (hs : s.length = 8) : addI s v 0 = s := by
 apply List.ext_getElem
 · simp [addI, hs]
 · intro i h1 h2
   simp [addI, List.getD_eq_getElem?_getD, List.getElem?_eq_getElem h2]
theorem addI_all (s v : List UInt32) : addI s v 8 = addW s v := by
 unfold addI addW
 apply List.map_congr_left
 intro j hj
 rw [if_pos (by simpa using hj)]
theorem addI_step {s v : List UInt32} {i j j' : Nat} (hi : i < 8) (hj : i = j) (hj' : i = j') (h1 : j < (addI s v i).length) (h2 : j' < v.length) : ((addI s v i).map wR).set j [.val (.int .u32 (((addI s v i)[j]'h1 + v[j']'h2 : UInt32).toNat : Int))] = (addI s v (i + 1)).map wR := by
 obtain rfl := hj
 obtain rfl := hj'
 refine row_set (x := (addI s v i)[i]'h1 + v[i]'h2) rfl ?_
 apply List.ext_getElem
 · simp [addI]
 · intro n g1 g2
   rw [List.getElem_set]
   have hn : n < 8 := by rw [addI_len] at g2; exact g2
   split
   · rename_i e
     subst e
     simp [addI, List.getD_eq_getElem?_getD, List.getElem?_eq_getElem h2]
   · simp only [addI, List.getElem_map, List.getElem_range]
     by_cases e : n < i
     · rw [if_pos e, if_pos (by omega)]
     · rw [if_neg e, if_neg (by omega)]
def absS0 (s : List UInt32) (b : List UInt8) : St := ⟨numE 0 [.loc 200 0 0, .lsl 201 0 64], [(200, some (.row 1 (s.map wR))), (201, some (.row 1 (b.map bR)))], [200, 201]⟩
def absS1 (s : List UInt32) (b : List UInt8) : St := ⟨[], [(200, some (.row 1 (s.map wR))), (201, some (.row 1 (b.map bR)))], [200, 201]⟩
attribute [local irreducible] PSub Wp PSpec Le Need Both
attribute [local irreducible] schW schI sched wordI rounds shaBlock word4 shaK rotr addI
theorem absorb_spec (s : List UInt32) (b : List UInt8) (hs : s.length = 8) (hb0 : b.length = 64) : GSpec Tryz.prog 151 2 (absS0 s b) [200, 201] 0 (absS1 (shaBlock s b) b) := by
 refine GSpec.of_vc (fun Γ => more6 false Γ.P Γ.fx) (fun Γ => more6_ok) Tryz.func151 rfl Tryz.call151 (by decide) ?_
 rintro ⟨P, N, w0, X, β0, fx, y, hy, pk, df⟩ rfl rfl rfl hoff rfl; change y.on = false at hoff
 skip
 refine Wp.loop (fun k : Nat => ⟨[(0, .loc 200 0 0), (1, .lsl 201 0 64), (4, .loc 4 0 0), (23, .int k)], [(4, some (.row 1 ((schW b k).map wR))), (200, some (.row 1 (s.map wR))), (201, some (.row 1 (b.map bR)))], [4, 200, 201]⟩) (fun k => k ≤ 16) (fun k => 16 - k) 0 (Le.of ?_ ?_ rfl rfl rfl) (by omega) ?_
 · (repeat' (first|exact trivial|refine aq ?_ ?_|exact oq|fail))
 · (repeat' (first|exact trivial|exact rfl|refine aq ?_ ?_|fail))
   exact rowEq (by rw [schW_nil]; rfl)
 intro k hk
 have hw := schW_len (b := b) (k := k) (by omega)
 by_cases hk2 : k < 16
 · refine code_sound (more := more6 false _ _) more6_ok FOK.wide _ ?_
   repeat' ((try conv => whnf); first|(first|refine k3 ?_ ?_|refine k4 ?_ ?_) <;> intro hb <;> (try rw [lM] at hb) <;> try (exfalso; omega)|fail)
   refine Wp.loop (fun i : Nat => ⟨[(0, .loc 200 0 0), (1, .lsl 201 0 64), (4, .loc 4 0 0), (5, .int k), (23, .int k), (26, .int i)], [(4, some (.row 1 ((schI b k i).map wR))), (200, some (.row 1 (s.map wR))), (201, some (.row 1 (b.map bR)))], [4, 200, 201]⟩) (fun i => i ≤ 4) (fun i => 4 - i) 0 (Le.of ?_ ?_ rfl rfl rfl) (by omega) ?_
   · (repeat' (first|exact trivial|refine aq ?_ ?_|exact oq|fail))
   · (repeat' (first|exact trivial|exact rfl|refine aq ?_ ?_|fail))
     exact rowEq (by rw [schW_zero (by omega)])
   intro i hi
   have hw2 := schI_len (b := b) (k := k) (i := i) (by omega)
   by_cases hi2 : i < 4
   · refine code_sound (more := more6 false _ _) more6_ok FOK.wide _ ?_
     repeat' ((try conv => whnf); first|(first|refine k3 ?_ ?_|refine k4 ?_ ?_) <;> intro hb <;> (try rw [lM] at hb) <;> try (exfalso; omega)|fail)
     refine Wp.draw (more := more6 true _ _) more6_det more6_ok FOK.wide rfl (by decide +kernel) (by conv => lhs; reduce) ?_
     repeat' ((try conv => whnf); first|refine aq rfl ?_|refine aq bd ?_|refine ⟨_, _, getMapN nm, rfl, ?_⟩|fail)
     refine ⟨_, shl8x (m := wordI b k i) (schI_at (by omega) _) (wordI_lt3 hi2), ?_⟩
     repeat' ((try conv => whnf); first|refine s2 ?_|refine s4 nm ?_|refine aq bd ?_|refine ⟨_, _, getMapN nm, rfl, ?_⟩|fail)
     refine ⟨_, or8x (wordI_lt3 hi2) _, ?_⟩
     repeat' ((try conv => whnf); first|refine aq rfl ?_|refine s4 nm ?_|refine aq bd ?_|refine .inl ⟨rfl, rfl, bd, rfl, rfl, ?_⟩|fail)
     exact ⟨i + 1, Le.of (by (repeat' (first|exact trivial|refine aq ?_ ?_|exact oq|fail))) (by (repeat' (first|exact trivial|exact rfl|refine aq ?_ ?_|fail)); exact rowEq (schI_step (by omega) (by omega) hi2 (by omega))) rfl rfl rfl, by omega, by omega⟩
   · have ei : i = 4 := by omega
     subst ei
     refine code_sound (more := more6 false _ _) more6_ok FOK.wide _ ?_
     repeat' ((try conv => whnf); first|refine s4 nm ?_|fail)
     exact ⟨k + 1, Le.of (by (repeat' (first|exact trivial|refine aq ?_ ?_|exact oq|fail))) (by rw [schW_16 hk2]; (repeat' (first|exact trivial|exact rfl|refine aq ?_ ?_|fail))) rfl rfl rfl, by omega, by omega⟩
 have ek : k = 16 := by omega
 subst ek
 refine code_sound (more := more6 false _ _) more6_ok FOK.wide _ ?_
 skip
 refine Wp.loop (fun k : Nat => ⟨[(0, .loc 200 0 0), (4, .loc 4 0 0), (7, .int k)], [(4, some (.row 1 ((schW b k).map wR))), (200, some (.row 1 (s.map wR))), (201, some (.row 1 (b.map bR)))], [4, 200, 201]⟩) (fun k => 16 ≤ k ∧ k ≤ 64) (fun k => 64 - k) 16 (Le.of ?_ ?_ rfl rfl rfl) (by omega) ?_
 · (repeat' (first|exact trivial|refine aq ?_ ?_|exact oq|fail))
 · (repeat' (first|exact trivial|exact rfl|refine aq ?_ ?_|fail))
 rintro k ⟨hk0, hk⟩
 have hw := schW_len (b := b) (k := k) (by omega)
 by_cases hk2 : k < 64
 · refine code_sound (more := more6 false _ _) more6_ok FOK.wide _ ?_
   repeat' ((try conv => whnf); first|(first|refine k3 ?_ ?_|refine k4 ?_ ?_) <;> intro hb <;> (try rw [lM] at hb) <;> try (exfalso; omega)|fail)
   refine Wp.draw (more := more6 true _ _) more6_det more6_ok FOK.wide rfl (by decide +kernel) (by conv => lhs; reduce) ?_
   repeat' ((try conv => whnf); first|refine aq rfl ?_|refine s4 nm ?_|refine aq bd ?_|refine ⟨_, _, getMapN nm, rfl, ?_⟩|fail)
   refine .inl ⟨_, rotl_spec _ 7 (by decide) (by decide), ?_⟩
   skip
   refine .inl ⟨_, rotl_spec _ 18 (by decide) (by decide), ?_⟩
   repeat' ((try conv => whnf); first|refine u2 ?_|refine u5 ?_|refine aq bd ?_|fail)
   refine .inl ⟨_, rotl_spec _ 17 (by decide) (by decide), ?_⟩
   skip
   refine .inl ⟨_, rotl_spec _ 19 (by decide) (by decide), ?_⟩
   repeat' ((try conv => whnf); first|refine u2 ?_|refine u6 ?_|refine aq bd ?_|fail)
   refine Wp.draw (more := more6 true _ _) more6_det more6_ok FOK.wide rfl (by decide +kernel) (by conv => lhs; reduce) ?_
   repeat' ((try conv => whnf); first|refine u1 ?_|refine aq rfl ?_|refine s4 nm ?_|refine aq bd ?_|refine ⟨_, _, getMapN nm, rfl, ?_⟩|refine .inl ⟨rfl, rfl, bd, rfl, rfl, ?_⟩|fail)
   refine ⟨k + 1, Le.of (by (repeat' (first|exact trivial|refine aq ?_ ?_|exact oq|fail))) ?_ rfl rfl rfl, by omega, by omega⟩
   (repeat' (first|exact trivial|exact rfl|refine aq ?_ ?_|fail))
   refine rowEq (schW_step hk0 hk2 (by omega) ?_)
   rw [schW_get (j := ((k : Int) - 16).toNat) (by omega), schW_get (j := ((k : Int) - 15).toNat) (by omega), schW_get (j := ((k : Int) - 7).toNat) (by omega), schW_get (j := ((k : Int) - 2).toNat) (by omega)]
   rw [show ((k : Int) - 16).toNat = k - 16 by omega, show ((k : Int) - 15).toNat = k - 15 by omega, show ((k : Int) - 7).toNat = k - 7 by omega, show ((k : Int) - 2).toNat = k - 2 by omega]
   rfl
 have ek : k = 64 := by omega
 subst ek
 refine code_sound (more := more6 false _ _) more6_ok FOK.wide _ ?_
 skip
 refine .inr ⟨rfl, rfl, by rw [List.length_map, hs]; rfl, ?_⟩
 repeat' ((try conv => whnf); first|refine .inr ⟨rfl, rfl, rfl, ?_⟩|fail)
 refine ⟨by rw [wflat_len, hs]; rfl, wflat_ones s, by rw [wflat_len, hs]; rfl, _, wflat_sg s, ?_⟩
 skip
 refine Wp.loop (fun k : Nat => ⟨[(0, .loc 200 0 0), (4, .loc 4 0 0), (12, .loc 12 0 0), (92, .int k)], [(12, some (.row 1 ((rounds s (schW b 64) k).map wR))), (4, some (.row 1 ((schW b 64).map wR))), (200, some (.row 1 (s.map wR))), (201, some (.row 1 (b.map bR)))], [12, 4, 200, 201]⟩) (fun k => k ≤ 64) (fun k => 64 - k) 0 (Le.of ?_ ?_ rfl rfl rfl) (by omega) ?_
 · (repeat' (first|exact trivial|refine aq ?_ ?_|exact oq|fail))
 · (repeat' (first|exact trivial|exact rfl|refine aq ?_ ?_|fail))
   exact rowEq (by rw [rounds_zero])
 intro k hk
 have hv := rounds_len s (schW b 64) hs k
 have hK := shaK_len
 have hw := schW_len (b := b) (k := 64) (by omega)
 by_cases hk2 : k < 64
 · generalize hV : rounds s (schW b 64) k = V at hv ⊢
   refine code_sound (more := more6 false _ _) more6_ok FOK.wide _ ?_
   repeat' ((try conv => whnf); first|(first|refine k3 ?_ ?_|refine k4 ?_ ?_) <;> intro hb <;> (try rw [lM] at hb) <;> try (exfalso; omega)|fail)
   refine Wp.draw (more := more6 true _ _) more6_det more6_ok FOK.wide rfl (by decide +kernel) (by conv => lhs; reduce) ?_
   repeat' ((try conv => whnf); first|refine aq rfl ?_|refine aq bd ?_|refine ⟨_, _, getMapN nm, rfl, ?_⟩|fail)
   refine .inl ⟨_, rotl_spec _ 6 (by decide) (by decide), ?_⟩
   skip
   refine .inl ⟨_, rotl_spec _ 11 (by decide) (by decide), ?_⟩
   repeat' ((try conv => whnf); first|refine u2 ?_|fail)
   refine .inl ⟨_, rotl_spec _ 25 (by decide) (by decide), ?_⟩
   repeat' ((try conv => whnf); first|refine u2 ?_|fail)
   refine Wp.draw (more := more6 true _ _) more6_det more6_ok FOK.wide rfl (by decide +kernel) (by conv => lhs; reduce) ?_
   repeat' ((try conv => whnf); first|refine u4 ?_|refine u1 ?_|refine u2 ?_|refine u3 ?_|refine aq rfl ?_|refine aq bd ?_|refine ⟨_, _, getMapN nm, rfl, ?_⟩|fail)
   refine ⟨_, glob0, ⟨by omega, by omega⟩, ?_⟩
   repeat' ((try conv => whnf); first|refine u1 ?_|refine aq rfl ?_|refine aq bd ?_|refine s8 nm ?_|refine ⟨_, _, getMapN nm, rfl, ?_⟩|fail)
   refine .inl ⟨_, rotl_spec _ 2 (by decide) (by decide), ?_⟩
   skip
   refine .inl ⟨_, rotl_spec _ 13 (by decide) (by decide), ?_⟩
   repeat' ((try conv => whnf); first|refine u2 ?_|fail)
   refine .inl ⟨_, rotl_spec _ 22 (by decide) (by decide), ?_⟩
   repeat' ((try conv => whnf); first|refine u1 ?_|refine u2 ?_|refine u3 ?_|refine aq rfl ?_|refine s4 nm ?_|refine aq bd ?_|refine ⟨_, _, getMapN nm, rfl, ?_⟩|refine .inr ⟨rfl, rfl, rfl, ?_⟩|fail)
   refine ⟨k + 1, Le.of (by (repeat' (first|exact trivial|refine aq ?_ ?_|exact oq|fail))) ?_ rfl rfl rfl, by omega, by omega⟩
   (repeat' (first|exact trivial|exact rfl|refine aq ?_ ?_|fail))
   refine rowEq ?_
   rw [rounds_succ, hV]
   simp only [getD_of _ (0 : UInt32)]
   rfl
 have ek : k = 64 := by omega
 subst ek
 obtain ⟨V, hV⟩ : ∃ V, V = rounds s (schW b 64) 64 := ⟨_, rfl⟩
 rw [← hV] at hv
 simp only [← hV]
 have hres : shaBlock s b = addI s V 8 := by rw [addI_all, hV, schW_all, shaBlock]
 refine code_sound (more := more6 false _ _) more6_ok FOK.wide _ ?_
 skip
 refine Wp.loop (fun i : Nat => ⟨[(0, .loc 200 0 0), (12, .loc 12 0 0), (172, .int i)], [(12, some (.row 1 (V.map wR))), (200, some (.row 1 ((addI s V i).map wR))), (201, some (.row 1 (b.map bR)))], [12, 200, 201]⟩) (fun i => i ≤ 8) (fun i => 8 - i) 0 (Le.of ?_ ?_ rfl rfl rfl) (by omega) ?_
 · (repeat' (first|exact trivial|refine aq ?_ ?_|exact oq|fail))
 · (repeat' (first|exact trivial|exact rfl|refine aq ?_ ?_|fail))
   exact rowEq (by rw [addI_zero hs])
 intro i hi
 have ha := addI_len s V i
 by_cases hi2 : i < 8
 · refine code_sound (more := more6 false _ _) more6_ok FOK.wide _ ?_
   repeat' ((try conv => whnf); first|(first|refine k3 ?_ ?_|refine k4 ?_ ?_) <;> intro hb <;> (try rw [lM] at hb) <;> try (exfalso; omega)|fail)
   refine Wp.draw (more := more6 true _ _) more6_det more6_ok FOK.wide rfl (by decide +kernel) (by conv => lhs; reduce) ?_
   repeat' ((try conv => whnf); first|refine u1 ?_|refine aq rfl ?_|refine s4 nm ?_|refine aq bd ?_|refine ⟨_, _, getMapN nm, rfl, ?_⟩|refine .inl ⟨rfl, rfl, bd, rfl, rfl, ?_⟩|fail)
   exact ⟨i + 1, Le.of (by (repeat' (first|exact trivial|refine aq ?_ ?_|exact oq|fail))) (by (repeat' (first|exact trivial|exact rfl|refine aq ?_ ?_|fail)); exact rowEq (addI_step hi2 (by omega) (by omega) (by omega) (by omega))) rfl rfl rfl, by omega, by omega⟩
 · have ei : i = 8 := by omega
   subst ei
   refine code_sound (more := more6 false _ _) more6_ok FOK.wide _ ?_
   skip
   rw [hres]
   exact Le.of (by (repeat' (first|exact trivial|fail))) (by (repeat' (first|exact trivial|exact rfl|refine aq ?_ ?_|fail))) rfl rfl rfl
end Go.Proofs.YtjfjpnefohbobaaGreatDoor
/- Digest: a block, in the reference. Conditions: none. -/
namespace Go.Proofs.YtjfjpnefohbobaaGreatDoor
open Go.Avc
theorem cut_map {α : Type} {f : α → List PV} {l : List α} {i j : Nat} : cut (l.map f) i j = (cut l i j).map f := by simp [cut, List.map_drop, List.map_take]
theorem wordC_spec (b : List UInt8) (k i j : Nat) (hi : i = 4 * k) (hj : j = i + 4) (h : j ≤ b.length) : PSpec Tryz.prog 155 [.sl 1 (cut (b.map bR) i j)] (wU (word4 b k)) := by
 subst hi hj
 have e : cut b (4 * k) (4 * k + 4) = [b.getD (4 * k) 0, b.getD (4 * k + 1) 0, b.getD (4 * k + 2) 0, b.getD (4 * k + 3) 0] := by
   apply List.ext_getElem
   · simp [cut]; omega
   · intro n h1 h2
     have hn : n < 4 := by simpa using h2
     have e1 : (cut b (4 * k) (4 * k + 4))[n]'h1 = b.getD (4 * k + n) 0 := by
       rw [← getD_of b 0 (4 * k + n) (by omega)]
       simp [cut]
     rw [e1]
     match n, hn with
     | 0, _ => rfl
     | 1, _ => rfl
     | 2, _ => rfl
     | 3, _ => rfl
 have := word_spec (b.getD (4 * k) 0) (b.getD (4 * k + 1) 0) (b.getD (4 * k + 2) 0) (b.getD (4 * k + 3) 0)
 rw [cut_map, e]
 have e2 : word4 [b.getD (4 * k) 0, b.getD (4 * k + 1) 0, b.getD (4 * k + 2) 0, b.getD (4 * k + 3) 0] 0 = word4 b k := by rw [word4_eq, word4_eq]; rfl
 rw [e2] at this
 exact this
theorem schW_next16 {b : List UInt8} {k : Nat} (h : k < 16) : schW b (k + 1) = sched b k ++ word4 b k :: List.replicate (64 - (k + 1)) 0 := by
 rw [← schW_16 h, schI, schW_next (by omega)]; rfl
theorem wU_ones (l : List UInt32) : onesB (l.map wU) = true := onesB_map _ _ fun _ => rfl
theorem wU_sing (l : List UInt32) : singles (l.map wU) = l.map wR := by
 unfold singles
 rw [List.map_map]
 rfl
theorem sub_wU {B : Nat → Option Blk} {x y : UInt32} (h : x = y) : SubA B (.pure (.val (.int .u32 (x.toNat : Int)))) (.pure (wU y)) := .inl (by rw [h]; rfl)
theorem shaBlock_eq (s : List UInt32) (b : List UInt8) : shaBlock s b = addW s (rounds s (schW b 64) 64) := by rw [schW_all]; rfl
attribute [local irreducible] PSub Wp PSpec Le Need Both
attribute [local irreducible] schW schI sched wordI rounds shaBlock word4 shaK rotr addI
theorem rblock_spec (s : List UInt32) (b : List UInt8) (rows : List (List PV)) (hs : s.length = 8) (hb0 : b.length = 64) (hr : rows = b.map bR) : PSpec Tryz.prog 153 [.agg (s.map wR).flatten, .sl 1 rows] (.agg ((shaBlock s b).map wR).flatten) := by
 subst hr
 refine PSpec.of_vc (fun Γ => more6 false Γ.P Γ.fx) (fun Γ => more6_ok) Tryz.func153 rfl Tryz.call153 (by simp) ?_
 rintro ⟨P, N, w0, X, β0, fx, y, hy, pk, df⟩ rfl rfl rfl hoff rfl; change y.on = false at hoff
 repeat' ((try conv => whnf); first|refine aq rfl ?_|refine ⟨_, singles_flat _ _, ?_⟩|refine aq (onesB_flat _ _ fun _ => rfl) ?_|refine .inr ⟨rfl, rfl, rfl, ?_⟩|fail)
 refine Wp.loop (fun k : Nat => ⟨[(1, .pure (.sl 1 (b.map bR))), (2, .loc 2 0 0), (4, .loc 4 0 0), (5, .loc 5 0 0), (6, .int k)], [(5, some (.row 1 ((schW b k).map wR))), (4, some (.row 1 ((List.replicate 8 (0 : UInt32)).map wR))), (2, some (.row 1 (s.map wR)))], [5, 4, 2]⟩) (fun k => k ≤ 16) (fun k => 16 - k) 0 (Le.of ?_ ?_ rfl rfl rfl) (by omega) ?_
 · (repeat' (first|exact trivial|refine aq ?_ ?_|exact oq|fail))
 · (repeat' (first|exact trivial|exact rfl|refine aq ?_ ?_|fail))
   all_goals exact rowEq (by rw [schW_nil]; rfl)
 intro k hk
 have hw := schW_len (b := b) (k := k) (by omega)
 by_cases hk2 : k < 16
 · refine code_sound (more := more6 false _ _) more6_ok FOK.wide _ ?_
   repeat' ((try conv => whnf); first|(first|refine k3 ?_ ?_|refine k4 ?_ ?_) <;> intro hb <;> (try rw [lM] at hb) <;> try (exfalso; omega)|refine s4 nm ?_|refine aq bd ?_|fail)
   refine .inl ⟨_, wordC_spec b k _ _ (by omega) (by omega) (by omega), ?_⟩
   repeat' ((try conv => whnf); first|refine aq rfl ?_|refine s4 nm ?_|refine aq bd ?_|refine .inl ⟨rfl, rfl, bd, rfl, rfl, ?_⟩|fail)
   refine ⟨k + 1, Le.of (by (repeat' (first|exact trivial|refine aq ?_ ?_|exact oq|fail))) ?_ rfl rfl rfl, by omega, by omega⟩
   (repeat' (first|exact trivial|exact rfl|refine aq ?_ ?_|fail))
   exact rowEq (row_set (x := word4 b k) rfl (by rw [show ((k : Int)).toNat = k by omega, schW_next (by omega)]; exact (schW_next16 hk2).symm))
 have ek : k = 16 := by omega
 subst ek
 refine code_sound (more := more6 false _ _) more6_ok FOK.wide _ ?_
 skip
 refine Wp.loop (fun k : Nat => ⟨[(2, .loc 2 0 0), (4, .loc 4 0 0), (5, .loc 5 0 0), (7, .int k)], [(5, some (.row 1 ((schW b k).map wR))), (4, some (.row 1 ((List.replicate 8 (0 : UInt32)).map wR))), (2, some (.row 1 (s.map wR)))], [5, 4, 2]⟩) (fun k => 16 ≤ k ∧ k ≤ 64) (fun k => 64 - k) 16 (Le.of ?_ ?_ rfl rfl rfl) (by omega) ?_
 · (repeat' (first|exact trivial|refine aq ?_ ?_|exact oq|fail))
 · (repeat' (first|exact trivial|exact rfl|refine aq ?_ ?_|fail))
 rintro k ⟨hk0, hk⟩
 have hw := schW_len (b := b) (k := k) (by omega)
 by_cases hk2 : k < 64
 · refine code_sound (more := more6 false _ _) more6_ok FOK.wide _ ?_
   repeat' ((try conv => whnf); first|(first|refine k3 ?_ ?_|refine k4 ?_ ?_) <;> intro hb <;> (try rw [lM] at hb) <;> try (exfalso; omega)|refine aq rfl ?_|refine s4 nm ?_|refine aq bd ?_|refine ⟨_, _, getMapN nm, rfl, ?_⟩|fail)
   refine Wp.draw (more := more6 true _ _) more6_det more6_ok FOK.wide rfl (by decide +kernel) (by conv => lhs; reduce) ?_
   repeat' ((try conv => whnf); first|refine aq rfl ?_|refine s4 nm ?_|refine aq bd ?_|refine ⟨_, _, getMapN nm, rfl, ?_⟩|fail)
   refine ⟨_, ror_spec _ 7 (by decide) (by decide), ?_⟩
   skip
   refine ⟨_, ror_spec _ 18 (by decide) (by decide), ?_⟩
   repeat' ((try conv => whnf); first|refine u1 ?_|refine u2 ?_|refine u5 ?_|refine aq rfl ?_|refine s4 nm ?_|refine aq bd ?_|refine ⟨_, _, getMapN nm, rfl, ?_⟩|fail)
   refine ⟨_, ror_spec _ 17 (by decide) (by decide), ?_⟩
   skip
   refine ⟨_, ror_spec _ 19 (by decide) (by decide), ?_⟩
   repeat' ((try conv => whnf); first|refine u1 ?_|refine u2 ?_|refine u6 ?_|refine aq rfl ?_|refine s4 nm ?_|refine aq bd ?_|refine .inl ⟨rfl, rfl, bd, rfl, rfl, ?_⟩|fail)
   refine ⟨k + 1, Le.of (by (repeat' (first|exact trivial|refine aq ?_ ?_|exact oq|fail))) ?_ rfl rfl rfl, by omega, by omega⟩
   (repeat' (first|exact trivial|exact rfl|refine aq ?_ ?_|fail))
   refine rowEq (schW_step hk0 hk2 (by omega) ?_)
   rw [schW_get (j := ((k : Int) - 16).toNat) (by omega), schW_get (j := ((k : Int) - 15).toNat) (by omega), schW_get (j := ((k : Int) - 7).toNat) (by omega), schW_get (j := ((k : Int) - 2).toNat) (by omega)]
   rw [show ((k : Int) - 16).toNat = k - 16 by omega, show ((k : Int) - 15).toNat = k - 15 by omega, show ((k : Int) - 7).toNat = k - 7 by omega, show ((k : Int) - 2).toNat = k - 2 by omega]
   rfl
 have ek : k = 64 := by omega
 subst ek
 have hK := shaK_len
 refine code_sound (more := more6 false _ _) more6_ok FOK.wide _ ?_
 skip
 refine .inl ⟨_, numbers_spec, ?_⟩
 repeat' ((try conv => whnf); first|refine aq rfl ?_|refine .inr ⟨rfl, rfl, rfl, ?_⟩|fail)
 refine ⟨by rw [List.length_map, hK]; rfl, wU_ones _, by rw [List.length_map, hK]; rfl, _, wU_sing _, ?_⟩
 skip
 refine Wp.draw (more := more6 true _ _) more6_det more6_ok FOK.wide rfl (by decide +kernel) (by conv => lhs; reduce) ?_
 repeat' ((try conv => whnf); first|refine aq rfl ?_|refine aq bd ?_|refine ⟨_, _, getMapN nm, rfl, ?_⟩|fail)
 refine Wp.loop (fun k : Nat => ⟨[(2, .loc 2 0 0), (4, .loc 4 0 0), (5, .loc 5 0 0), (10, .loc 10 0 0), (11, .pure (wU ((rounds s (schW b 64) k).getD 0 0))), (12, .pure (wU ((rounds s (schW b 64) k).getD 1 0))), (13, .pure (wU ((rounds s (schW b 64) k).getD 2 0))), (14, .pure (wU ((rounds s (schW b 64) k).getD 3 0))), (15, .pure (wU ((rounds s (schW b 64) k).getD 4 0))), (16, .pure (wU ((rounds s (schW b 64) k).getD 5 0))), (17, .pure (wU ((rounds s (schW b 64) k).getD 6 0))), (18, .pure (wU ((rounds s (schW b 64) k).getD 7 0))), (19, .int k)], [(10, some (.row 1 (shaK.map wR))), (5, some (.row 1 ((schW b 64).map wR))), (4, some (.row 1 ((List.replicate 8 (0 : UInt32)).map wR))), (2, some (.row 1 (s.map wR)))], [10, 5, 4, 2]⟩) (fun k => k ≤ 64) (fun k => 64 - k) 0 (Le.of ?_ ?_ rfl rfl rfl) (by omega) ?_
 · (repeat' (first|exact trivial|refine aq ?_ ?_|exact oq|fail))
   all_goals exact sub_wU (by rw [rounds_zero]; exact getD_of s (0 : UInt32) _ _)
 · (repeat' (first|exact trivial|exact rfl|refine aq ?_ ?_|fail))
 intro k hk
 by_cases hk2 : k < 64
 · generalize hV : rounds s (schW b 64) k = V
   have hw := schW_len (b := b) (k := 64) (by omega)
   refine code_sound (more := more6 false _ _) more6_ok FOK.wide _ ?_
   repeat' ((try conv => whnf); first|(first|refine k3 ?_ ?_|refine k4 ?_ ?_) <;> intro hb <;> (try rw [lM] at hb) <;> try (exfalso; omega)|fail)
   refine Wp.draw (more := more6 true _ _) more6_det more6_ok FOK.wide rfl (by decide +kernel) (by conv => lhs; reduce) ?_
   skip
   refine ⟨_, ror_spec _ 6 (by decide) (by decide), ?_⟩
   skip
   refine ⟨_, ror_spec _ 11 (by decide) (by decide), ?_⟩
   repeat' ((try conv => whnf); first|refine u2 ?_|fail)
   refine ⟨_, ror_spec _ 25 (by decide) (by decide), ?_⟩
   repeat' ((try conv => whnf); first|refine u4 ?_|refine u1 ?_|refine u2 ?_|refine u3 ?_|refine aq rfl ?_|refine aq bd ?_|refine ⟨_, _, getMapN nm, rfl, ?_⟩|fail)
   refine .inl ⟨_, ror_spec _ 2 (by decide) (by decide), ?_⟩
   skip
   refine .inl ⟨_, ror_spec _ 13 (by decide) (by decide), ?_⟩
   repeat' ((try conv => whnf); first|refine u2 ?_|fail)
   refine .inl ⟨_, ror_spec _ 22 (by decide) (by decide), ?_⟩
   repeat' ((try conv => whnf); first|refine u1 ?_|refine u2 ?_|refine u3 ?_|refine s4 nm ?_|fail)
   refine ⟨k + 1, Le.of ?_ (by (repeat' (first|exact trivial|exact rfl|refine aq ?_ ?_|fail))) rfl rfl rfl, by omega, by omega⟩
   rw [rounds_succ, hV]
   (repeat' (first|exact trivial|refine aq ?_ ?_|exact oq|fail))
   all_goals exact sub_wU (by simp only [getD_of _ (0 : UInt32)]; rfl)
 have ek : k = 64 := by omega
 subst ek
 refine code_sound (more := more6 false _ _) more6_ok FOK.wide _ ?_
 repeat' ((try conv => whnf); first|refine u1 ?_|refine aq rfl ?_|refine aq bd ?_|refine ⟨_, _, getMapN nm, rfl, ?_⟩|refine .inr ⟨rfl, rfl, rfl, ?_⟩|fail)
 refine PSub.of_eq ?_
 rw [shaBlock_eq]
 simp only [getD_of _ (0 : UInt32)]
 rfl
end Go.Proofs.YtjfjpnefohbobaaGreatDoor
