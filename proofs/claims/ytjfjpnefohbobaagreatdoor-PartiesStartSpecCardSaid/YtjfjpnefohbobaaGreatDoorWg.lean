/- Codec: what is read; take, number. Conditions: none. -/
import Derived.Test.YtjfjpnefohbobaaGreatDoorWd
import Derived.Test.YtjfjpnefohbobaaGreatDoorWf
import Derived.RecoverIn
import Derived.Tactics2
set_option linter.unusedSimpArgs false
set_option linter.unusedVariables false
set_option maxRecDepth 20000
set_option maxHeartbeats 4000000
namespace Go.Proofs.YtjfjpnefohbobaaGreatDoor
open Go.Avc
def pnum : Nat → Nat → List UInt8 → Option (Nat × List UInt8)
 | _, _, [] => none
 | i, u, c :: r => if (i = 9 ∧ 1 < c.toNat) ∨ (0 < i ∧ c.toNat = 0) then none else if c.toNat < 128 then some (u + c.toNat % 128 * 2 ^ (7 * i), r) else pnum (i + 1) (u + c.toNat % 128 * 2 ^ (7 * i)) r
def sg (u : Nat) : Int := if u % 2 = 0 then ((u / 2 : Nat) : Int) else -((u / 2 : Nat) : Int) - 1
def zeroV : Val := .mk 0 0 ⟨#[]⟩ []
def rvals (p : List UInt8 → Val × Option (List UInt8)) : Nat → List UInt8 → List Val × Option (List UInt8)
 | 0, r => ([], some r)
 | n + 1, r => match p r with
   | (v, none) => ([v], none)
   | (v, some r') => match rvals p n r' with
     | (l, o) => (v :: l, o)
def rlist (p : Option (List UInt8 → Val × Option (List UInt8))) (r : List UInt8) : Val × Option (List UInt8) := match pnum 0 0 r with
 | none => (zeroV, none)
 | some (n, r') => match p with
   | none => (zeroV, none)
   | some p => if n ≤ r'.length then (match rvals p n r' with | (l, o) => (.mk 3 0 ⟨#[]⟩ l, o)) else (zeroV, none)
def rone (p : Option (List UInt8 → Val × Option (List UInt8))) : List UInt8 → Val × Option (List UInt8)
 | [] => (zeroV, none)
 | c :: r => if c.toNat = 1 then (match pnum 0 0 r with
     | none => (.mk 1 0 ⟨#[]⟩ [], none)
     | some (u, r') => (.mk 1 (sg u) ⟨#[]⟩ [], some r'))
   else if c.toNat = 2 then (match pnum 0 0 r with
     | none => (zeroV, none)
     | some (n, r') => if n ≤ r'.length then (.mk 2 0 ⟨(r'.take n).toArray⟩ [], some (r'.drop n)) else (zeroV, none))
   else if c.toNat = 3 then rlist p r
   else (zeroV, none)
def rval : Nat → List UInt8 → Val × Option (List UInt8)
 | 0 => rone none
 | f + 1 => rone (some (rval f))
def brk : Value := .iface 161 (.agg #[])
attribute [local irreducible] PSub Wp PSpec Le Need Both
theorem take_spec (r : List UInt8) (n : Nat) (hr : r.length ≤ 1000000) (hn : n ≤ r.length) : GSpec Tryz.prog 147 2 ⟨[(0, .loc 100 0 0), (1, .pure (.val (.int .u64 n)))], [(100, some (.box [.pure (encB r)]))], [100]⟩ [100] 1
   ⟨[(0, .pure (encB (r.take n)))], [(100, some (.box [.pure (encB (r.drop n))]))], [100]⟩ := by
 refine GSpec.of_vc (fun Γ => more5 false Γ.P Γ.fx) (fun Γ => more5_ok) Tryz.func147 rfl Tryz.call147 (by decide) ?_
 rintro ⟨P, N, w0, X, β0, fx, y, hy, pk, df⟩ rfl rfl rfl hoff rfl; change y.on = false at hoff
 skip
 refine ⟨((r.length : Nat) : Int), by rw [wrap_u64]; simp <;> omega, ?_⟩
 repeat' ((try conv => whnf); first|(first|refine k3 ?_ ?_|refine k4 ?_ ?_) <;> intro hb <;> (try rw [lM] at hb) <;> try (exfalso; omega)|refine aq bd ?_|fail)
 refine Wp.draw (more := more5 true _ _) more5_det more5_ok FOK.wide rfl (by decide +kernel) (by conv => lhs; reduce) ?_
 repeat' ((try conv => whnf); first|refine aq rfl ?_|refine aq bd ?_|fail)
 refine Le.of ?_ ?_ rfl rfl rfl
 · (repeat' (first|exact trivial|refine aq ?_ ?_|exact SubA.sl sc|fail))
   all_goals (refine SubA.sl ?_; simp [cut])
 · (repeat' (first|exact trivial|refine aq ?_ ?_|refine Exists.intro _ (aq rfl ?_)|fail))
   all_goals (refine SubA.sl ?_; simp only [cut, List.map_drop, Int.toNat_natCast, List.length_map]; exact List.take_of_length_le (by simp))
theorem take_no (r : List UInt8) (n : Nat) (hr : r.length ≤ 1000000) (hn : r.length < n) : XSpec Tryz.prog 147 2 ⟨[(0, .loc 100 0 0), (1, .pure (.val (.int .u64 n)))], [(100, some (.box [.pure (encB r)]))], [100]⟩ brk := by
 refine XSpec.of_vc (fun Γ => more5 false Γ.P Γ.fx) (fun Γ => more5_ok) Tryz.func147 rfl Tryz.call147 (by decide) ?_
 rintro ⟨P, N, w0, X, β0, fx, y, hy, pk, df⟩ rfl rfl rfl hoff rfl; change y.on = false at hoff
 skip
 refine ⟨((r.length : Nat) : Int), by rw [wrap_u64]; simp <;> omega, ?_⟩
 repeat' ((try conv => whnf); first|(first|refine k3 ?_ ?_|refine k4 ?_ ?_) <;> intro hb <;> (try rw [lM] at hb) <;> try (exfalso; omega)|refine aq rfl ?_|fail)
 all_goals trivial
theorem one_take (c : UInt8) (r : List UInt8) : (c :: r).take 1 = [c] := rfl
theorem pnum_cons (i u : Nat) (c : UInt8) (r : List UInt8) : pnum i u (c :: r) = if (i = 9 ∧ 1 < c.toNat) ∨ (0 < i ∧ c.toNat = 0) then none else if c.toNat < 128 then some (u + c.toNat % 128 * 2 ^ (7 * i), r) else pnum (i + 1) (u + c.toNat % 128 * 2 ^ (7 * i)) r := rfl
theorem and_127 (c : UInt8) : bits .and .u8 (c.toNat : Int) 127 = ((c.toNat % 128 : Nat) : Int) := by
 have h := UInt8.toNat_lt c
 have h1 := (bits_nat .u8 8 (by decide) (fun n h0 h1 => by rw [IntKind.wrap_u8]; omega) c.toNat 127 (by omega) (by decide)).1
 rw [show ((127 : Nat) : Int) = 127 from rfl] at h1
 rw [h1, show (127 : Nat) = 2 ^ 7 - 1 from rfl, Nat.and_two_pow_sub_one_eq_mod]
theorem or_low {i v x : Nat} (hv : v < 2 ^ i) (hi : i ≤ 64) (hx : x % 2 ^ i = 0) (hx1 : x < 18446744073709551616) : bits .or .u64 (v : Int) (x : Int) = ((v + x : Nat) : Int) := by
 have hp : 2 ^ i ≤ 2 ^ 64 := Nat.pow_le_pow_right (by decide) hi
 rw [(bits_nat .u64 64 (by decide) wraps_u64 v x (by omega) hx1).2, Nat.or_comm]
 obtain ⟨k, rfl⟩ : ∃ k, x = 2 ^ i * k := ⟨x / 2 ^ i, by have := Nat.div_add_mod x (2 ^ i); omega⟩
 rw [← Nat.two_pow_add_eq_or_of_lt hv, Nat.add_comm]
theorem shl_u64 {a n : Nat} (h : n ≤ 64) (hlt : a * 2 ^ n < 18446744073709551616) : IntKind.u64.wrap ((a : Int) * 2 ^ min (Int.toNat (n : Int)) IntKind.u64.bits) = ((a * 2 ^ n : Nat) : Int) := by
 rw [Int.toNat_natCast, show min n IntKind.u64.bits = n from Nat.min_eq_left h, show (2 : Int) ^ n = ((2 ^ n : Nat) : Int) from by simp, ← Int.natCast_mul, wrap_u64]
 omega
theorem seven_lt {i c : Nat} (hi : i ≤ 9) (hc : c < 128) (h9 : i = 9 → c ≤ 1) : c * 2 ^ (7 * i) < 18446744073709551616 := by
 by_cases h : i = 9
 · subst h
   have := h9 rfl
   exact Nat.lt_of_le_of_lt (Nat.mul_le_mul_right _ this) (by decide)
 · have h1 : 2 ^ (7 * i) ≤ 2 ^ 56 := Nat.pow_le_pow_right (by decide) (by omega)
   exact Nat.lt_of_le_of_lt (Nat.mul_le_mul (show c ≤ 127 by omega) h1) (by decide)
theorem seven_next {i v c : Nat} (hv : v < 2 ^ (7 * i)) (hc : c < 128) : v + c * 2 ^ (7 * i) < 2 ^ (7 * (i + 1)) := by
 have h1 : 2 ^ (7 * (i + 1)) = 128 * 2 ^ (7 * i) := by rw [show 7 * (i + 1) = 7 + 7 * i by omega, Nat.pow_add]
 have h2 : c * 2 ^ (7 * i) ≤ 127 * 2 ^ (7 * i) := Nat.mul_le_mul_right _ (by omega)
 omega
theorem number_spec (b : List UInt8) (hb : b.length ≤ 1000000) (u : Nat) (r : List UInt8) (h : pnum 0 0 b = some (u, r)) : GSpec Tryz.prog 149 1 ⟨[(0, .loc 100 0 0)], [(100, some (.box [.pure (encB b)]))], [100]⟩ [100] 1
   ⟨[(0, .pure (.val (.int .u64 u)))], [(100, some (.box [.pure (encB r)]))], [100]⟩ := by
 refine GSpec.of_vc (fun Γ => more5 false Γ.P Γ.fx) (fun Γ => more5_ok) Tryz.func149 rfl Tryz.call149 (by decide) ?_
 rintro ⟨P, N, w0, X, β0, fx, y, hy, pk, df⟩ rfl rfl rfl hoff rfl; change y.on = false at hoff
 skip
 refine Wp.loop (fun x : Nat × Nat × List UInt8 => ⟨[(0, .loc 100 0 0), (2, .pure (.val (.int .u64 x.2.1))), (3, .int x.1)], [(100, some (.box [.pure (encB x.2.2)]))], [100]⟩) (fun x => x.1 ≤ 9 ∧ x.2.1 < 2 ^ (7 * x.1) ∧ x.2.2.length ≤ 1000000 ∧ pnum x.1 x.2.1 x.2.2 = some (u, r)) (fun x => x.2.2.length) (0, 0, b) (Le.of ?_ ?_ rfl rfl rfl) ⟨by simp, by simp, hb, h⟩ ?_
 · (repeat' (first|exact trivial|refine aq ?_ ?_|exact oq|fail))
 · (repeat' (first|exact trivial|refine aq ?_ ?_|refine Exists.intro _ (aq rfl ?_)|exact oq|fail))
 rintro ⟨i, v, m⟩ ⟨hi, hv, hm, hp⟩
 dsimp only at hi hv hm hp ⊢
 cases m with
 | nil => cases hp
 | cons c m =>
   rw [pnum_cons] at hp
   have qt := take_spec (c :: m) 1 hm (by simp)
   rw [one_take, show (c :: m).drop 1 = m from rfl] at qt
   split at hp
   · cases hp
   rename_i hno
   have hs := seven_lt (i := i) (c := c.toNat % 128) hi (by omega) (by omega)
   have hnx := seven_next (i := i) (c := c.toNat % 128) hv (by omega)
   simp only [List.length_cons] at hm
   by_cases hc : c.toNat < 128
   · rw [if_pos hc] at hp
     have h1 := congrArg Prod.fst (Option.some.inj hp)
     have h2 := congrArg Prod.snd (Option.some.inj hp)
     dsimp only at h1 h2
     rw [← h1, ← h2]
     refine code_sound (more := more5 false _ _) more5_ok FOK.wide _ ?_
     skip
     refine .inr ⟨[(100, 100)], [.loc 100 0 0, .pure (.val (.int .u64 (1 : Nat)))], [(100, some (.box [.pure (encB (c :: m))]))], [100], [100], 1, _, qt, ⟨Or.inl rfl, Or.inl rfl, trivial⟩, ⟨rfl, trivial⟩, ?_⟩
     repeat' ((try conv => whnf); first|(first|refine k3 ?_ ?_|refine k4 ?_ ?_) <;> intro hb <;> (try rw [lM] at hb) <;> try (exfalso; omega)|refine s5 nm nm ?_|fail)
     all_goals simp only [List.getElem_cons_zero] at *
     all_goals first | (exfalso; omega) | skip
     all_goals refine ⟨_, and_127 c, ?_⟩
     all_goals (skip)
     all_goals refine ⟨((c.toNat % 128 : Nat) : Int), by rw [wrap_u64]; omega, ?_⟩
     all_goals (repeat' ((try conv => whnf); first|refine s4 nm ?_|refine aq bd ?_|fail))
     all_goals refine ⟨((c.toNat % 128 * 2 ^ (7 * i) : Nat) : Int), by rw [show (7 * (i : Int)) = ((7 * i : Nat) : Int) from by omega]; exact shl_u64 (by omega) hs, ?_⟩
     all_goals (skip)
     all_goals refine ⟨_, or_low (i := 7 * i) hv (by omega) (Nat.mul_mod_left _ _) hs, ?_⟩
     all_goals (repeat' ((try conv => whnf); first|(first|refine k3 ?_ ?_|refine k4 ?_ ?_) <;> intro hb <;> (try rw [lM] at hb) <;> try (exfalso; omega)|fail))
     all_goals (refine Le.of ?_ ?_ rfl rfl rfl)
     all_goals ((repeat' (first|exact trivial|refine aq ?_ ?_|refine Exists.intro _ (aq rfl ?_)|exact oq|fail)))
   · rw [if_neg hc] at hp
     refine code_sound (more := more5 false _ _) more5_ok FOK.wide _ ?_
     skip
     refine .inr ⟨[(100, 100)], [.loc 100 0 0, .pure (.val (.int .u64 (1 : Nat)))], [(100, some (.box [.pure (encB (c :: m))]))], [100], [100], 1, _, qt, ⟨Or.inl rfl, Or.inl rfl, trivial⟩, ⟨rfl, trivial⟩, ?_⟩
     repeat' ((try conv => whnf); first|(first|refine k3 ?_ ?_|refine k4 ?_ ?_) <;> intro hb <;> (try rw [lM] at hb) <;> try (exfalso; omega)|refine s5 nm nm ?_|fail)
     all_goals simp only [List.getElem_cons_zero] at *
     all_goals first | (exfalso; omega) | skip
     all_goals refine ⟨_, and_127 c, ?_⟩
     all_goals (skip)
     all_goals refine ⟨((c.toNat % 128 : Nat) : Int), by rw [wrap_u64]; omega, ?_⟩
     all_goals (repeat' ((try conv => whnf); first|refine s4 nm ?_|refine aq bd ?_|fail))
     all_goals refine ⟨((c.toNat % 128 * 2 ^ (7 * i) : Nat) : Int), by rw [show (7 * (i : Int)) = ((7 * i : Nat) : Int) from by omega]; exact shl_u64 (by omega) hs, ?_⟩
     all_goals (skip)
     all_goals refine ⟨_, or_low (i := 7 * i) hv (by omega) (Nat.mul_mod_left _ _) hs, ?_⟩
     all_goals (repeat' ((try conv => whnf); first|(first|refine k3 ?_ ?_|refine k4 ?_ ?_) <;> intro hb <;> (try rw [lM] at hb) <;> try (exfalso; omega)|refine s4 nm ?_|fail))
     all_goals exact ⟨(i + 1, v + c.toNat % 128 * 2 ^ (7 * i), m), Le.of (by (repeat' (first|exact trivial|refine aq ?_ ?_|exact oq|fail))) (by (repeat' (first|exact trivial|refine aq ?_ ?_|refine Exists.intro _ (aq rfl ?_)|exact oq|fail))) rfl rfl rfl, ⟨by simp only; omega, hnx, by simp only; omega, hp⟩, by simp⟩
theorem number_no (b : List UInt8) (hb : b.length ≤ 1000000) (h : pnum 0 0 b = none) : XSpec Tryz.prog 149 1 ⟨[(0, .loc 100 0 0)], [(100, some (.box [.pure (encB b)]))], [100]⟩ brk := by
 refine XSpec.of_vc (fun Γ => more5 false Γ.P Γ.fx) (fun Γ => more5_ok) Tryz.func149 rfl Tryz.call149 (by decide) ?_
 rintro ⟨P, N, w0, X, β0, fx, y, hy, pk, df⟩ rfl rfl rfl hoff rfl; change y.on = false at hoff
 skip
 refine Wp.loop (fun x : Nat × Nat × List UInt8 => ⟨[(0, .loc 100 0 0), (2, .pure (.val (.int .u64 x.2.1))), (3, .int x.1)], [(100, some (.box [.pure (encB x.2.2)]))], [100]⟩) (fun x => x.1 ≤ 9 ∧ x.2.1 < 2 ^ (7 * x.1) ∧ x.2.2.length ≤ 1000000 ∧ pnum x.1 x.2.1 x.2.2 = none) (fun x => x.2.2.length) (0, 0, b) (Le.of ?_ ?_ rfl rfl rfl) ⟨by simp, by simp, hb, h⟩ ?_
 · (repeat' (first|exact trivial|refine aq ?_ ?_|exact oq|fail))
 · (repeat' (first|exact trivial|refine aq ?_ ?_|refine Exists.intro _ (aq rfl ?_)|exact oq|fail))
 rintro ⟨i, v, m⟩ ⟨hi, hv, hm, hp⟩
 dsimp only at hi hv hm hp ⊢
 cases m with
 | nil =>
   have qt := take_no [] 1 (by simp) (by simp)
   refine code_sound (more := more5 false _ _) more5_ok FOK.wide _ ?_
   skip
   refine .inl ⟨[(100, 100)], [.loc 100 0 0, .pure (.val (.int .u64 (1 : Nat)))], [(100, some (.box [.pure (encB [])]))], [100], qt, ⟨Or.inl rfl, Or.inl rfl, trivial⟩, ⟨rfl, trivial⟩, trivial⟩
 | cons c m =>
   rw [pnum_cons] at hp
   have qt := take_spec (c :: m) 1 hm (by simp)
   rw [one_take, show (c :: m).drop 1 = m from rfl] at qt
   simp only [List.length_cons] at hm
   by_cases hno : (i = 9 ∧ 1 < c.toNat) ∨ (0 < i ∧ c.toNat = 0)
   · refine code_sound (more := more5 false _ _) more5_ok FOK.wide _ ?_
     skip
     refine .inr <| .inr ⟨[(100, 100)], [.loc 100 0 0, .pure (.val (.int .u64 (1 : Nat)))], [(100, some (.box [.pure (encB (c :: m))]))], [100], [100], 1, _, qt, ⟨Or.inl rfl, Or.inl rfl, trivial⟩, ⟨rfl, trivial⟩, ?_⟩
     repeat' ((try conv => whnf); first|(first|refine k3 ?_ ?_|refine k4 ?_ ?_) <;> intro hb <;> (try rw [lM] at hb) <;> try (exfalso; omega)|refine aq rfl ?_|refine s5 nm nm ?_|fail)
     all_goals simp only [List.getElem_cons_zero] at *
     all_goals first | trivial | (exfalso; omega)
   · rw [if_neg hno] at hp
     have hs := seven_lt (i := i) (c := c.toNat % 128) hi (by omega) (by omega)
     have hnx := seven_next (i := i) (c := c.toNat % 128) hv (by omega)
     by_cases hc : c.toNat < 128
     · rw [if_pos hc] at hp
       cases hp
     · rw [if_neg hc] at hp
       refine code_sound (more := more5 false _ _) more5_ok FOK.wide _ ?_
       skip
       refine .inr <| .inr ⟨[(100, 100)], [.loc 100 0 0, .pure (.val (.int .u64 (1 : Nat)))], [(100, some (.box [.pure (encB (c :: m))]))], [100], [100], 1, _, qt, ⟨Or.inl rfl, Or.inl rfl, trivial⟩, ⟨rfl, trivial⟩, ?_⟩
       repeat' ((try conv => whnf); first|(first|refine k3 ?_ ?_|refine k4 ?_ ?_) <;> intro hb <;> (try rw [lM] at hb) <;> try (exfalso; omega)|refine aq rfl ?_|refine s5 nm nm ?_|fail)
       all_goals simp only [List.getElem_cons_zero] at *
       all_goals first | (exfalso; omega) | skip
       all_goals refine ⟨_, and_127 c, ?_⟩
       all_goals (skip)
       all_goals refine ⟨((c.toNat % 128 : Nat) : Int), by rw [wrap_u64]; omega, ?_⟩
       all_goals (repeat' ((try conv => whnf); first|refine s4 nm ?_|refine aq bd ?_|fail))
       all_goals refine ⟨((c.toNat % 128 * 2 ^ (7 * i) : Nat) : Int), by rw [show (7 * (i : Int)) = ((7 * i : Nat) : Int) from by omega]; exact shl_u64 (by omega) hs, ?_⟩
       all_goals (skip)
       all_goals refine ⟨_, or_low (i := 7 * i) hv (by omega) (Nat.mul_mod_left _ _) hs, ?_⟩
       all_goals (repeat' ((try conv => whnf); first|(first|refine k3 ?_ ?_|refine k4 ?_ ?_) <;> intro hb <;> (try rw [lM] at hb) <;> try (exfalso; omega)|refine s4 nm ?_|fail))
       all_goals exact ⟨(i + 1, v + c.toNat % 128 * 2 ^ (7 * i), m), Le.of (by (repeat' (first|exact trivial|refine aq ?_ ?_|exact oq|fail))) (by (repeat' (first|exact trivial|refine aq ?_ ?_|refine Exists.intro _ (aq rfl ?_)|exact oq|fail))) rfl rfl rfl, ⟨by simp only; omega, hnx, by simp only; omega, hp⟩, by simp⟩
end Go.Proofs.YtjfjpnefohbobaaGreatDoor
/- Codec: a value is read. Conditions: none. -/
namespace Go.Proofs.YtjfjpnefohbobaaGreatDoor
open Go.Avc
theorem xor_m1 {a : Nat} (ha : a < 9223372036854775808) : bits .xor .i64 (a : Int) (-1) = -(a : Int) - 1 := by
 have h1 : (BitVec.ofInt IntKind.i64.bits (-1)).toNat = 18446744073709551615 := by decide
 have ha' : a % 2 ^ IntKind.i64.bits = a := Nat.mod_eq_of_lt (by show a < 2 ^ 64; omega)
 simp only [bits, BitVec.ofInt_natCast, BitVec.toNat_xor, BitVec.toNat_ofNat, ha', h1]
 rw [xor_ones (by omega), IntKind.wrap_i64]; omega
theorem xor_0 {a : Nat} (ha : a < 9223372036854775808) : bits .xor .i64 (a : Int) 0 = (a : Int) := by
 have := bits_xor_nat .i64 63 (by decide) wraps_i64 a 0 ha (by decide)
 rw [Nat.xor_zero] at this
 exact this
theorem and_1 {n : Nat} (h : n < 18446744073709551616) : bits .and .u64 (n : Int) 1 = ((n % 2 : Nat) : Int) := by
 have := (bits_nat .u64 64 (by decide) wraps_u64 n 1 h (by decide)).1
 rw [Nat.and_one_is_mod] at this
 exact this
theorem sg_range {u : Nat} (h : u < 18446744073709551616) : -9223372036854775808 ≤ sg u ∧ sg u ≤ 9223372036854775807 := by unfold sg; split <;> omega
attribute [local irreducible] PSub Wp PSpec Le Need Both
attribute [local irreducible] rval rone rlist rvals pnum sg
theorem signed_spec (u : Nat) (h : u < 18446744073709551616) : PSpec Tryz.prog 148 [.val (.int .u64 u)] (.int (sg u)) := by
 refine PSpec.of_vc (fun Γ => more5 false Γ.P Γ.fx) (fun Γ => more5_ok) Tryz.func148 rfl Tryz.call148 (by simp) ?_
 rintro ⟨P, N, w0, X, β0, fx, y, hy, pk, df⟩ rfl rfl rfl hoff rfl; change y.on = false at hoff
 repeat' ((try conv => whnf); first|refine aq bd ?_|fail)
 refine ⟨((u / 2 : Nat) : Int), shr_nat u 1 64 (by decide), ?_⟩
 repeat' ((try conv => whnf); first|refine s4 nm ?_|fail)
 refine ⟨_, and_1 h, ?_⟩
 repeat' ((try conv => whnf); first|refine s4 nm ?_|fail)
 rcases Nat.mod_two_eq_zero_or_one u with h2 | h2
 · refine ⟨((u / 2 : Nat) : Int), by rw [h2]; exact xor_0 (by omega), ?_⟩
   skip
   exact PSub.val_int (by unfold sg; rw [if_pos h2])
 · refine ⟨-((u / 2 : Nat) : Int) - 1, by rw [h2]; exact xor_m1 (by omega), ?_⟩
   skip
   exact PSub.val_int (by unfold sg; rw [if_neg (by omega)])
def pf : Nat → Option (List UInt8 → Val × Option (List UInt8))
 | 0 => none
 | f + 1 => some (rval f)
theorem rval_eq (f : Nat) (b : List UInt8) : rval f b = rone (pf f) b := by cases f <;> (unfold rval pf; rfl)
theorem pnum_len : ∀ (b : List UInt8) (i u : Nat) {n : Nat} {r : List UInt8}, pnum i u b = some (n, r) → r.length < b.length
 | [], i, u, n, r, h => by unfold pnum at h; cases h
 | c :: b, i, u, n, r, h => by
   rw [pnum_cons] at h
   split at h
   · cases h
   · split at h
     · cases h; simp
     · have := pnum_len b _ _ h; simp; omega
theorem pnum_lt : ∀ (b : List UInt8) (i u : Nat) {n : Nat} {r : List UInt8}, i ≤ 9 → u < 2 ^ (7 * i) → pnum i u b = some (n, r) → n < 18446744073709551616
 | [], i, u, n, r, _, _, h => by unfold pnum at h; cases h
 | c :: b, i, u, n, r, hi, hu, h => by
   rw [pnum_cons] at h
   split at h
   · cases h
   rename_i hno
   have hs := seven_lt (i := i) (c := c.toNat % 128) hi (by omega) (by omega)
   have hnx := seven_next (i := i) (c := c.toNat % 128) hu (by omega)
   split at h
   · have h1 := congrArg Prod.fst (Option.some.inj h)
     dsimp only at h1
     by_cases h9 : i = 9
     · subst h9
       have hc : c.toNat % 128 ≤ 1 := by omega
       have : c.toNat % 128 * 2 ^ (7 * 9) ≤ 1 * 2 ^ (7 * 9) := Nat.mul_le_mul_right _ hc
       rw [← h1]
       exact Nat.lt_of_lt_of_le (Nat.add_lt_add_of_lt_of_le hu this) (by decide)
     · rw [← h1]
       exact Nat.lt_of_lt_of_le hnx (Nat.le_trans (Nat.pow_le_pow_right (by decide) (show 7 * (i + 1) ≤ 63 by omega)) (by decide))
   · by_cases h9 : i = 9
     · omega
     · exact pnum_lt b (i + 1) _ (by omega) hnx h
theorem end_val {B : Nat → Option Blk} {v : Val} {k n : Int} {s : ByteArray} {q : PV} (h1 : k = v.kind) (h2 : n = v.num) (h3 : s = v.str) (h4 : PSub q (.sl 4 (v.kids.map encV))) :
   SubA B (.agg [.pure (.int k), .pure (.int n), .pure (.val (.string s)), .pure q]) (.pure (.agg (encV v))) := by
 refine Or.inr (Or.inr (Or.inl ⟨.agg [.int k, .int n, .val (.string s), q], _, rfl, rfl, ?_⟩))
 rw [encV_eq, h1, h2, h3]
 exact PSub.agg ⟨PSub.refl _, PSub.refl _, PSub.refl _, h4, trivial⟩
theorem rvals_succ (p : List UInt8 → Val × Option (List UInt8)) (n : Nat) (r : List UInt8) : rvals p (n + 1) r = match p r with
 | (v, none) => ([v], none)
 | (v, some r') => match rvals p n r' with
   | (l, o) => (v :: l, o) := by
 first
   | (conv => lhs; rw [rvals]
      cases p r with
      | mk v o => cases o <;> rfl)
   | (conv => lhs; rw [rvals])
theorem rvals_zero (p : List UInt8 → Val × Option (List UInt8)) (r : List UInt8) : rvals p 0 r = ([], some r) := by unfold rvals; rfl
theorem rvals_len {p : List UInt8 → Val × Option (List UInt8)} (hp : ∀ (b r : List UInt8) (v : Val), p b = (v, some r) → r.length < b.length) : ∀ (n : Nat) {b r : List UInt8} {l : List Val}, rvals p n b = (l, some r) → r.length ≤ b.length
 | 0, b, r, l, h => by
   rw [rvals_zero] at h
   simp only [Prod.mk.injEq, Option.some.injEq] at h
   rw [← h.2]
   exact Nat.le_refl _
 | n + 1, b, r, l, h => by
   rw [rvals_succ] at h
   cases hc : p b with
   | mk x o => cases o with
     | none => rw [hc] at h; cases h
     | some q =>
       have h1 := hp b q x hc
       rw [hc] at h
       dsimp only at h
       cases hc2 : rvals p n q with
       | mk l' o' =>
         rw [hc2] at h
         simp only [Prod.mk.injEq] at h
         rw [h.2] at hc2
         have h2 := rvals_len hp n hc2
         omega
theorem rval_len (f : Nat) : ∀ {b r : List UInt8} {v : Val}, rval f b = (v, some r) → r.length < b.length := by
 induction f with
 | zero =>
   intro b r v h
   rw [rval_eq] at h
   unfold pf rone at h
   cases b with
   | nil => cases h
   | cons c m =>
     dsimp only at h
     split at h
     · cases hn : pnum 0 0 m with
       | none => rw [hn] at h; cases h
       | some p => have := pnum_len m 0 0 (n := p.1) (r := p.2) hn; rw [hn] at h; simp only [Prod.mk.injEq, Option.some.injEq] at h; rw [← h.2]; simp; omega
     · split at h
       · cases hn : pnum 0 0 m with
         | none => rw [hn] at h; cases h
         | some p =>
           have := pnum_len m 0 0 (n := p.1) (r := p.2) hn; rw [hn] at h; dsimp only at h
           split at h
           · simp only [Prod.mk.injEq, Option.some.injEq] at h; rw [← h.2]; simp; omega
           · cases h
       · split at h
         · unfold rlist at h
           cases hn : pnum 0 0 m with
           | none => rw [hn] at h; cases h
           | some p => rw [hn] at h; cases h
         · cases h
 | succ f ih =>
   intro b r v h
   rw [rval_eq] at h
   unfold pf rone at h
   cases b with
   | nil => cases h
   | cons c m =>
     dsimp only at h
     split at h
     · cases hn : pnum 0 0 m with
       | none => rw [hn] at h; cases h
       | some p => have := pnum_len m 0 0 (n := p.1) (r := p.2) hn; rw [hn] at h; simp only [Prod.mk.injEq, Option.some.injEq] at h; rw [← h.2]; simp; omega
     · split at h
       · cases hn : pnum 0 0 m with
         | none => rw [hn] at h; cases h
         | some p =>
           have := pnum_len m 0 0 (n := p.1) (r := p.2) hn; rw [hn] at h; dsimp only at h
           split at h
           · simp only [Prod.mk.injEq, Option.some.injEq] at h; rw [← h.2]; simp; omega
           · cases h
       · split at h
         · unfold rlist at h
           cases hn : pnum 0 0 m with
           | none => rw [hn] at h; cases h
           | some p =>
             have h1 := pnum_len m 0 0 (n := p.1) (r := p.2) hn; rw [hn] at h; dsimp only at h
             split at h
             · cases hc2 : rvals (rval f) p.1 p.2 with
               | mk l' o' =>
                 rw [hc2] at h
                 simp only [Prod.mk.injEq] at h
                 rw [h.2] at hc2
                 have h2 := rvals_len (fun b r v h => ih h) _ hc2
                 simp; omega
             · cases h
         · cases h
def VSpec (f : Nat) : Prop := (∀ (b r : List UInt8) (v : Val), b.length ≤ 1000000 → rval f b = (v, some r) → GSpec Tryz.prog 141 2 ⟨[(0, .loc 100 0 0), (1, .int (16 - (f : Int)))], [(100, some (.box [.pure (encB b)]))], [100]⟩ [100] 1
   ⟨[(0, .pure (.agg (encV v)))], [(100, some (.box [.pure (encB r)]))], [100]⟩) ∧
 (∀ (b : List UInt8) (v : Val), b.length ≤ 1000000 → rval f b = (v, none) → XSpec Tryz.prog 141 2 ⟨[(0, .loc 100 0 0), (1, .int (16 - (f : Int)))], [(100, some (.box [.pure (encB b)]))], [100]⟩ brk)
theorem value_ok (f : Nat) (hf : f ≤ 16) (ih : ∀ f', f = f' + 1 → VSpec f') (b r : List UInt8) (v : Val) (hb : b.length ≤ 1000000) (h : rval f b = (v, some r)) : GSpec Tryz.prog 141 2 ⟨[(0, .loc 100 0 0), (1, .int (16 - (f : Int)))], [(100, some (.box [.pure (encB b)]))], [100]⟩ [100] 1
   ⟨[(0, .pure (.agg (encV v)))], [(100, some (.box [.pure (encB r)]))], [100]⟩ := by
 rw [rval_eq] at h
 cases b with
 | nil => unfold rone at h; cases h
 | cons c m =>
   have qt := take_spec (c :: m) 1 hb (by simp)
   rw [one_take, show (c :: m).drop 1 = m from rfl] at qt
   simp only [List.length_cons] at hb
   unfold rone at h
   refine GSpec.of_vc (fun Γ => more5 false Γ.P Γ.fx) (fun Γ => more5_ok) Tryz.func141 rfl Tryz.call141 (by decide) ?_
   rintro ⟨P, N, w0, X, β0, fx, y, hy, pk, df⟩ rfl rfl rfl hoff rfl; change y.on = false at hoff
   skip
   refine .inr ⟨[(100, 100)], [.loc 100 0 0, .pure (.val (.int .u64 (1 : Nat)))], [(100, some (.box [.pure (encB (c :: m))]))], [100], [100], 1, _, qt, ⟨Or.inl rfl, Or.inl rfl, trivial⟩, ⟨rfl, trivial⟩, ?_⟩
   repeat' ((try conv => whnf); first|(first|refine k3 ?_ ?_|refine k4 ?_ ?_) <;> intro hb <;> (try rw [lM] at hb) <;> try (exfalso; omega)|refine aq rfl ?_|refine s1 ?_|refine s5 nm nm ?_|fail)
   all_goals simp only [List.getElem_cons_zero] at *
   · rw [if_pos (by omega)] at h
     cases hnum : pnum 0 0 m with
     | none => rw [hnum] at h; cases h
     | some p =>
       obtain ⟨u, r1⟩ := p
       have hu := pnum_lt m 0 0 (by omega) (by decide) hnum
       rw [hnum] at h
       simp only [Prod.mk.injEq, Option.some.injEq] at h
       obtain ⟨hv, hr⟩ := h
       rw [← hv, ← hr]
       refine .inr ⟨[(100, 100)], [.loc 100 0 0], [(100, some (.box [.pure (encB m)]))], [100], [100], 1, _, number_spec m (by omega) u r1 hnum, ⟨Or.inl rfl, trivial⟩, ⟨rfl, trivial⟩, ?_⟩
       skip
       refine .inl ⟨_, signed_spec u hu, ?_⟩
       repeat' ((try conv => whnf); first|refine aq rfl ?_|fail)
       exact Le.of ⟨end_val (by show _ = (1 : Int); omega) rfl rfl (PSub.nil 4), trivial⟩ (by (repeat' (first|exact trivial|refine aq ?_ ?_|refine Exists.intro _ (aq rfl ?_)|exact oq|fail))) rfl rfl rfl
   · rw [if_neg (by omega), if_pos (by omega)] at h
     cases hnum : pnum 0 0 m with
     | none => rw [hnum] at h; cases h
     | some p =>
       obtain ⟨u, r1⟩ := p
       have hu := pnum_lt m 0 0 (by omega) (by decide) hnum
       have hr1 := pnum_len m 0 0 hnum
       rw [hnum] at h
       dsimp only at h
       split at h
       case isFalse => cases h
       rename_i hle
       simp only [Prod.mk.injEq, Option.some.injEq] at h
       obtain ⟨hv, hr⟩ := h
       rw [← hv, ← hr]
       refine .inr ⟨[(100, 100)], [.loc 100 0 0], [(100, some (.box [.pure (encB m)]))], [100], [100], 1, _, number_spec m (by omega) u r1 hnum, ⟨Or.inl rfl, trivial⟩, ⟨rfl, trivial⟩, ?_⟩
       skip
       refine .inr ⟨[(100, 100)], [.loc 100 0 0, .pure (.val (.int .u64 u))], [(100, some (.box [.pure (encB r1)]))], [100], [100], 1, _, take_spec r1 u (by omega) hle, ⟨Or.inl rfl, Or.inl rfl, trivial⟩, ⟨rfl, trivial⟩, ?_⟩
       repeat' ((try conv => whnf); first|refine aq rfl ?_|refine s7 ?_|fail)
       exact Le.of ⟨end_val (by show _ = (2 : Int); omega) rfl rfl (PSub.nil 4), trivial⟩ (by (repeat' (first|exact trivial|refine aq ?_ ?_|refine Exists.intro _ (aq rfl ?_)|exact oq|fail))) rfl rfl rfl
   · rw [if_neg (by omega), if_neg (by omega), if_pos (by omega)] at h
     unfold rlist at h
     cases hnum : pnum 0 0 m with
     | none => rw [hnum] at h; cases h
     | some p =>
       obtain ⟨u, r1⟩ := p
       have hu := pnum_lt m 0 0 (by omega) (by decide) hnum
       have hr1 := pnum_len m 0 0 hnum
       rw [hnum] at h
       cases f with
       | zero => unfold pf at h; cases h
       | succ f =>
         obtain ⟨ih1, ih2⟩ := ih f rfl
         unfold pf at h
         dsimp only at h
         split at h
         case isFalse => cases h
         rename_i hle
         simp only [Prod.mk.injEq] at h
         obtain ⟨hv, hr⟩ := h
         rw [← hv]
         refine .inr ⟨[(100, 100)], [.loc 100 0 0], [(100, some (.box [.pure (encB m)]))], [100], [100], 1, _, number_spec m (by omega) u r1 hnum, ⟨Or.inl rfl, trivial⟩, ⟨rfl, trivial⟩, ?_⟩
         repeat' ((try conv => whnf); first|(first|refine k3 ?_ ?_|refine k4 ?_ ?_) <;> intro hb <;> (try rw [lM] at hb) <;> try (exfalso; omega)|fail)
         refine ⟨((r1.length : Nat) : Int), by rw [wrap_u64]; simp <;> omega, ?_⟩
         repeat' ((try conv => whnf); first|(first|refine k3 ?_ ?_|refine k4 ?_ ?_) <;> intro hb <;> (try rw [lM] at hb) <;> try (exfalso; omega)|fail)
         refine Wp.loop (fun x : Nat × List Val × List UInt8 => ⟨[(0, .loc 100 0 0), (1, .int (16 - ((f + 1 : Nat) : Int))), (4, .loc 4 0 0), (48, .pure (.val (.int .u64 u))), (49, .pure (.val (.int .u64 x.1)))],
             [(100, some (.box [.pure (encB x.2.2)])), (4, some (.box [.int 3, .int 0, .pure (.val (.string ⟨#[]⟩)), .lsl 300 0 x.2.1.length])), (300, some (.row 4 (x.2.1.map encV)))], [100, 4, 300]⟩)
           (fun x => x.1 ≤ u ∧ x.2.1.length = x.1 ∧ x.2.2.length ≤ r1.length ∧ ∃ l, rvals (rval f) (u - x.1) x.2.2 = (l, some r) ∧ (rvals (rval f) u r1).1 = x.2.1 ++ l) (fun x => u - x.1) (0, [], r1)
           (Le.trans (Le.virt (k := 300) (sz := 4) rfl rfl (by omega)) (Le.of ?_ ?_ rfl rfl rfl)) ⟨by simp, rfl, by simp, (rvals (rval f) u r1).1, by simp only [Nat.sub_zero]; exact Prod.ext rfl hr, by simp⟩ ?_
         · (repeat' (first|exact trivial|refine aq ?_ ?_|exact oq|fail))
         · (repeat' (first|exact trivial|exact rfl|refine aq ?_ ?_|refine Exists.intro _ (aq rfl ?_)|exact oq|exact l1 bd|exact l6 rfl|fail))
         rintro ⟨k, l, q⟩ ⟨hk, hlk, hql, lr, hrv, hall⟩
         dsimp only at hk hlk hql hrv hall ⊢
         by_cases hk2 : k < u
         · rw [show u - k = (u - (k + 1)) + 1 by omega, rvals_succ] at hrv
           cases hc : rval f q with
           | mk x o => cases o with
             | none => rw [hc] at hrv; cases hrv
             | some q' =>
               have hqq := rval_len f hc
               rw [hc] at hrv
               dsimp only at hrv
               have q1 := ih1 q q' x (by omega) hc
               refine code_sound (more := more5 false _ _) more5_ok FOK.wide _ ?_
               repeat' ((try conv => whnf); first|(first|refine k3 ?_ ?_|refine k4 ?_ ?_) <;> intro hb <;> (try rw [lM] at hb) <;> try (exfalso; omega)|fail)
               refine Wp.drawG (more := more5 true _ _) more5_det more5_ok FOK.wide rfl (by decide +kernel) (by conv => lhs; reduce) ?_
               repeat' ((try conv => whnf); first|refine s4 nm ?_|fail)
               refine .inr ⟨[(100, 100)], [.loc 100 0 0, .int (16 - (f : Int))], [(100, some (.box [.pure (encB q)]))], [100], [100], 1, _, q1, ⟨Or.inl rfl, Or.inl (congrArg (fun z => AV.int z) (show (16 : Int) - ((f + 1 : Nat) : Int) + 1 = 16 - (f : Int) by omega)), trivial⟩, ⟨rfl, trivial⟩, ?_⟩
               repeat' ((try conv => whnf); first|refine aq rfl ?_|refine aq bd ?_|fail)
               refine ⟨((k + 1 : Nat) : Int), by rw [wrap_u64]; omega, ?_⟩
               skip
               cases hc2 : rvals (rval f) (u - (k + 1)) q' with
               | mk l' o' =>
                 rw [hc2] at hrv
                 simp only [Prod.mk.injEq] at hrv
                 refine ⟨(k + 1, l ++ [x], q'), Le.map [(300, 58)] ?_ ?_ rfl rfl rfl rfl, ⟨by simp only; omega, by simp; omega, by simp only; omega, l', by rw [← hrv.2]; exact hc2, by rw [hall, ← hrv.1]; simp⟩, by simp only; omega⟩
                 · (repeat' (first|exact trivial|refine aq ?_ ?_|exact oq|fail))
                 · (repeat' (first|exact trivial|refine aq ?_ ?_|refine Exists.intro _ (aq rfl ?_)|exact oq|exact SubA.lsl ls|fail))
                   all_goals (refine rowEq ?_; rw [List.map_append]; rfl)
         · have ek : k = u := by omega
           subst ek
           rw [Nat.sub_self, rvals_zero] at hrv
           simp only [Prod.mk.injEq, Option.some.injEq] at hrv
           obtain ⟨hlr, hqr⟩ := hrv
           rw [hall, ← hlr, List.append_nil, ← hqr]
           refine code_sound (more := more5 false _ _) more5_ok FOK.wide _ ?_
           repeat' ((try conv => whnf); first|(first|refine k3 ?_ ?_|refine k4 ?_ ?_) <;> intro hb <;> (try rw [lM] at hb) <;> try (exfalso; omega)|refine aq rfl ?_|fail)
           exact Le.trans (Le.frz 300 rfl) (Le.of ⟨end_val rfl rfl rfl (sub_sl (List.take_of_length_le (by simp))), trivial⟩ (by (repeat' (first|exact trivial|refine aq ?_ ?_|refine Exists.intro _ (aq rfl ?_)|exact oq|fail))) rfl rfl rfl)
   · rw [if_neg (by omega), if_neg (by omega), if_neg (by omega)] at h
     cases h
theorem value_no (f : Nat) (hf : f ≤ 16) (ih : ∀ f', f = f' + 1 → VSpec f') (b : List UInt8) (v : Val) (hb : b.length ≤ 1000000) (h : rval f b = (v, none)) : XSpec Tryz.prog 141 2 ⟨[(0, .loc 100 0 0), (1, .int (16 - (f : Int)))], [(100, some (.box [.pure (encB b)]))], [100]⟩ brk := by
 rw [rval_eq] at h
 cases b with
 | nil =>
   have qt := take_no [] 1 (by simp) (by simp)
   refine XSpec.of_vc (fun Γ => more5 false Γ.P Γ.fx) (fun Γ => more5_ok) Tryz.func141 rfl Tryz.call141 (by decide) ?_
   rintro ⟨P, N, w0, X, β0, fx, y, hy, pk, df⟩ rfl rfl rfl hoff rfl; change y.on = false at hoff
   skip
   exact .inl ⟨[(100, 100)], [.loc 100 0 0, .pure (.val (.int .u64 (1 : Nat)))], [(100, some (.box [.pure (encB [])]))], [100], qt, ⟨Or.inl rfl, Or.inl rfl, trivial⟩, ⟨rfl, trivial⟩, trivial⟩
 | cons c m =>
   have qt := take_spec (c :: m) 1 hb (by simp)
   rw [one_take, show (c :: m).drop 1 = m from rfl] at qt
   simp only [List.length_cons] at hb
   unfold rone at h
   refine XSpec.of_vc (fun Γ => more5 false Γ.P Γ.fx) (fun Γ => more5_ok) Tryz.func141 rfl Tryz.call141 (by decide) ?_
   rintro ⟨P, N, w0, X, β0, fx, y, hy, pk, df⟩ rfl rfl rfl hoff rfl; change y.on = false at hoff
   skip
   refine .inr <| .inr ⟨[(100, 100)], [.loc 100 0 0, .pure (.val (.int .u64 (1 : Nat)))], [(100, some (.box [.pure (encB (c :: m))]))], [100], [100], 1, _, qt, ⟨Or.inl rfl, Or.inl rfl, trivial⟩, ⟨rfl, trivial⟩, ?_⟩
   repeat' ((try conv => whnf); first|(first|refine k3 ?_ ?_|refine k4 ?_ ?_) <;> intro hb <;> (try rw [lM] at hb) <;> try (exfalso; omega)|refine aq rfl ?_|refine s1 ?_|refine s5 nm nm ?_|fail)
   all_goals simp only [List.getElem_cons_zero] at *
   · rw [if_pos (by omega)] at h
     cases hnum : pnum 0 0 m with
     | some p => rw [hnum] at h; cases h
     | none =>
       refine .inl ⟨[(100, 100)], [.loc 100 0 0], [(100, some (.box [.pure (encB m)]))], [100], number_no m (by omega) hnum, ⟨Or.inl rfl, trivial⟩, ⟨rfl, trivial⟩, trivial⟩
   · rw [if_neg (by omega), if_pos (by omega)] at h
     cases hnum : pnum 0 0 m with
     | none =>
       refine .inl ⟨[(100, 100)], [.loc 100 0 0], [(100, some (.box [.pure (encB m)]))], [100], number_no m (by omega) hnum, ⟨Or.inl rfl, trivial⟩, ⟨rfl, trivial⟩, trivial⟩
     | some p =>
       obtain ⟨u, r1⟩ := p
       have hu := pnum_lt m 0 0 (by omega) (by decide) hnum
       have hr1 := pnum_len m 0 0 hnum
       rw [hnum] at h
       dsimp only at h
       split at h
       case isTrue => cases h
       rename_i hle
       refine .inr <| .inr ⟨[(100, 100)], [.loc 100 0 0], [(100, some (.box [.pure (encB m)]))], [100], [100], 1, _, number_spec m (by omega) u r1 hnum, ⟨Or.inl rfl, trivial⟩, ⟨rfl, trivial⟩, ?_⟩
       skip
       refine .inl ⟨[(100, 100)], [.loc 100 0 0, .pure (.val (.int .u64 u))], [(100, some (.box [.pure (encB r1)]))], [100], take_no r1 u (by omega) (by omega), ⟨Or.inl rfl, Or.inl rfl, trivial⟩, ⟨rfl, trivial⟩, trivial⟩
   · rw [if_neg (by omega), if_neg (by omega), if_pos (by omega)] at h
     unfold rlist at h
     cases hnum : pnum 0 0 m with
     | none =>
       refine .inl ⟨[(100, 100)], [.loc 100 0 0], [(100, some (.box [.pure (encB m)]))], [100], number_no m (by omega) hnum, ⟨Or.inl rfl, trivial⟩, ⟨rfl, trivial⟩, trivial⟩
     | some p =>
       obtain ⟨u, r1⟩ := p
       have hu := pnum_lt m 0 0 (by omega) (by decide) hnum
       have hr1 := pnum_len m 0 0 hnum
       rw [hnum] at h
       cases f with
       | zero =>
         refine .inr <| .inr ⟨[(100, 100)], [.loc 100 0 0], [(100, some (.box [.pure (encB m)]))], [100], [100], 1, _, number_spec m (by omega) u r1 hnum, ⟨Or.inl rfl, trivial⟩, ⟨rfl, trivial⟩, ?_⟩
         repeat' ((try conv => whnf); first|refine aq rfl ?_|fail)
         all_goals first | trivial | (exfalso; omega)
       | succ f =>
         obtain ⟨ih1, ih2⟩ := ih f rfl
         unfold pf at h
         dsimp only at h
         by_cases hle : u ≤ r1.length
         rotate_left
         · refine .inr <| .inr ⟨[(100, 100)], [.loc 100 0 0], [(100, some (.box [.pure (encB m)]))], [100], [100], 1, _, number_spec m (by omega) u r1 hnum, ⟨Or.inl rfl, trivial⟩, ⟨rfl, trivial⟩, ?_⟩
           repeat' ((try conv => whnf); first|(first|refine k3 ?_ ?_|refine k4 ?_ ?_) <;> intro hb <;> (try rw [lM] at hb) <;> try (exfalso; omega)|fail)
           refine ⟨((r1.length : Nat) : Int), by rw [wrap_u64]; simp <;> omega, ?_⟩
           repeat' ((try conv => whnf); first|(first|refine k3 ?_ ?_|refine k4 ?_ ?_) <;> intro hb <;> (try rw [lM] at hb) <;> try (exfalso; omega)|refine aq rfl ?_|fail)
           all_goals first | trivial | (exfalso; omega)
         rw [if_pos hle] at h
         simp only [Prod.mk.injEq] at h
         obtain ⟨hv, hr⟩ := h
         refine .inr <| .inr ⟨[(100, 100)], [.loc 100 0 0], [(100, some (.box [.pure (encB m)]))], [100], [100], 1, _, number_spec m (by omega) u r1 hnum, ⟨Or.inl rfl, trivial⟩, ⟨rfl, trivial⟩, ?_⟩
         repeat' ((try conv => whnf); first|(first|refine k3 ?_ ?_|refine k4 ?_ ?_) <;> intro hb <;> (try rw [lM] at hb) <;> try (exfalso; omega)|fail)
         refine ⟨((r1.length : Nat) : Int), by rw [wrap_u64]; simp <;> omega, ?_⟩
         repeat' ((try conv => whnf); first|(first|refine k3 ?_ ?_|refine k4 ?_ ?_) <;> intro hb <;> (try rw [lM] at hb) <;> try (exfalso; omega)|fail)
         refine Wp.loop (fun x : Nat × List Val × List UInt8 => ⟨[(0, .loc 100 0 0), (1, .int (16 - ((f + 1 : Nat) : Int))), (4, .loc 4 0 0), (48, .pure (.val (.int .u64 u))), (49, .pure (.val (.int .u64 x.1)))],
             [(100, some (.box [.pure (encB x.2.2)])), (4, some (.box [.int 3, .int 0, .pure (.val (.string ⟨#[]⟩)), .lsl 300 0 x.2.1.length])), (300, some (.row 4 (x.2.1.map encV)))], [100, 4, 300]⟩)
           (fun x => x.1 ≤ u ∧ x.2.1.length = x.1 ∧ x.2.2.length ≤ r1.length ∧ ∃ l, rvals (rval f) (u - x.1) x.2.2 = (l, none)) (fun x => u - x.1) (0, [], r1)
           (Le.trans (Le.virt (k := 300) (sz := 4) rfl rfl (by omega)) (Le.of ?_ ?_ rfl rfl rfl)) ⟨by simp, rfl, by simp, (rvals (rval f) u r1).1, by simp only [Nat.sub_zero]; exact Prod.ext rfl hr⟩ ?_
         · (repeat' (first|exact trivial|refine aq ?_ ?_|exact oq|fail))
         · (repeat' (first|exact trivial|exact rfl|refine aq ?_ ?_|refine Exists.intro _ (aq rfl ?_)|exact oq|exact l1 bd|exact l6 rfl|fail))
         rintro ⟨k, l, q⟩ ⟨hk, hlk, hql, lr, hrv⟩
         dsimp only at hk hlk hql hrv ⊢
         by_cases hk2 : k < u
         · rw [show u - k = (u - (k + 1)) + 1 by omega, rvals_succ] at hrv
           cases hc : rval f q with
           | mk x o => cases o with
             | none =>
               refine code_sound (more := more5 false _ _) more5_ok FOK.wide _ ?_
               repeat' ((try conv => whnf); first|(first|refine k3 ?_ ?_|refine k4 ?_ ?_) <;> intro hb <;> (try rw [lM] at hb) <;> try (exfalso; omega)|fail)
               refine Wp.drawP 5 (more := more5 true _ _) more5_det more5_ok FOK.wide rfl (by decide +kernel) rfl (fun _ => trivial) (by conv => lhs; reduce) rfl rfl rfl rfl rfl (by decide +kernel) ?_
               repeat' ((try conv => whnf); first|refine s4 nm ?_|fail)
               refine .inr (.inr ⟨[(100, 100)], [.loc 100 0 0, .int (16 - (f : Int))], [(100, some (.box [.pure (encB q)]))], [100], ih2 q x (by omega) hc, ⟨Or.inl rfl, Or.inl (congrArg (fun z => AV.int z) (show (16 : Int) - ((f + 1 : Nat) : Int) + 1 = 16 - (f : Int) by omega)), trivial⟩, ⟨rfl, trivial⟩, ?_⟩)
               skip
               rfl
             | some q' =>
               have hqq := rval_len f hc
               rw [hc] at hrv
               dsimp only at hrv
               have q1 := ih1 q q' x (by omega) hc
               refine code_sound (more := more5 false _ _) more5_ok FOK.wide _ ?_
               repeat' ((try conv => whnf); first|(first|refine k3 ?_ ?_|refine k4 ?_ ?_) <;> intro hb <;> (try rw [lM] at hb) <;> try (exfalso; omega)|fail)
               refine Wp.drawG (more := more5 true _ _) more5_det more5_ok FOK.wide rfl (by decide +kernel) (by conv => lhs; reduce) ?_
               repeat' ((try conv => whnf); first|refine s4 nm ?_|fail)
               refine .inr ⟨[(100, 100)], [.loc 100 0 0, .int (16 - (f : Int))], [(100, some (.box [.pure (encB q)]))], [100], [100], 1, _, q1, ⟨Or.inl rfl, Or.inl (congrArg (fun z => AV.int z) (show (16 : Int) - ((f + 1 : Nat) : Int) + 1 = 16 - (f : Int) by omega)), trivial⟩, ⟨rfl, trivial⟩, ?_⟩
               repeat' ((try conv => whnf); first|refine aq rfl ?_|refine aq bd ?_|fail)
               refine ⟨((k + 1 : Nat) : Int), by rw [wrap_u64]; omega, ?_⟩
               skip
               cases hc2 : rvals (rval f) (u - (k + 1)) q' with
               | mk l' o' =>
                 rw [hc2] at hrv
                 simp only [Prod.mk.injEq] at hrv
                 refine ⟨(k + 1, l ++ [x], q'), Le.map [(300, 58)] ?_ ?_ rfl rfl rfl rfl, ⟨by simp only; omega, by simp; omega, by simp only; omega, l', by rw [← hrv.2]; exact hc2⟩, by simp only; omega⟩
                 · (repeat' (first|exact trivial|refine aq ?_ ?_|exact oq|fail))
                 · (repeat' (first|exact trivial|refine aq ?_ ?_|refine Exists.intro _ (aq rfl ?_)|exact oq|exact SubA.lsl ls|fail))
                   all_goals (refine rowEq ?_; rw [List.map_append]; rfl)
         · have ek : k = u := by omega
           subst ek
           rw [Nat.sub_self, rvals_zero] at hrv
           cases hrv
theorem value_spec : ∀ f, f ≤ 16 → VSpec f := by
 intro f
 induction f with
 | zero => exact fun hf => ⟨fun b r v hb h => value_ok 0 hf (fun f' h => by omega) b r v hb h, fun b v hb h => value_no 0 hf (fun f' h => by omega) b v hb h⟩
 | succ f ih => exact fun hf => ⟨fun b r v hb h => value_ok (f + 1) hf (fun f' h => by cases h; exact ih (by omega)) b r v hb h, fun b v hb h => value_no (f + 1) hf (fun f' h => by cases h; exact ih (by omega)) b v hb h⟩
end Go.Proofs.YtjfjpnefohbobaaGreatDoor
/- Codec: Decode; a panic is recovered. Conditions: none. -/
namespace Go.Avc
open Go.RowKit
theorem Wp.seq {Γ : Ctx} {F : Fence} {n : Nat} {x y : Code} {s : St} {K : Exit → St → Prop} (h : Wp Γ F n x s (seqK (fun s' K' => Wp Γ F n y s' K') K)) : Wp Γ F n (.seq x y) s K := by
 intro a w hR
 refine wpIn_seq (wpIn_mono (h a w hR) ?_)
 rintro e a' w' ⟨s', h1 | hE, h2⟩
 case inr =>
   obtain ⟨v, D, hpk, rfl, hD⟩ := hE
   exact ⟨s', .inr ⟨v, D, hpk, rfl, hD⟩, h2⟩
 cases e with
 | normal => exact h1 a' w' h2
 | exit id => exact ⟨s', .inl h1, h2⟩
 | goto l => exact ⟨s', .inl h1, h2⟩
 | ret => exact ⟨s', .inl h1, h2⟩
 | panic c => exact ⟨s', .inl h1, h2⟩
 | outgrown => exact ⟨s', .inl h1, h2⟩
theorem startR {P : Program} {N : Nat} {args : List PV} {w : World} {X : Nat → Prop} {vs : Array Value} (hgl : GlobOK P w X) (hsz : vs.size = args.length) (hl : args.length ≤ N) (hv : ∀ (j : Nat) (p : PV), args[j]? = some p → PR w X p (vs.getD j undef)) (hX : ∀ b, X b → b < w.heap.size) :
   R (Ctx.plain P N w X (fun _ => none) []) (startSt args) { tmps := vs ++ Array.replicate (N - vs.size) undef, defers := [] } w := by
 refine ⟨X, fun _ => none, ?_, fun _ h => h, fun _ _ h => h, (fun h => by cases h), (fun h => by cases h), ⟨[], rfl, List.nodup_nil, fun d hd => by cases hd⟩⟩
 refine
 { size := by show (vs ++ Array.replicate (N - vs.size) undef).size = N; rw [Array.size_append, Array.size_replicate]; omega
   slots := fun t => ?_
   blks := fun k => by simp [St.blk, startSt, lk, BO]
   inj := fun k k' bi bi' hk => by cases hk
   lt := fun k bi hk => by cases hk
   notX := fun k bi hk => by cases hk
   own := fun k bi hk => by cases hk
   fixd := fun k hk => rfl
   used1 := fun t k hk => by
     rcases startSt_get args t with e | ⟨p, _, e⟩ <;> rw [e] at hk <;> simp [AV.keys] at hk
   used2 := fun k b hk => by simp [St.blk, startSt, lk] at hk
   keep := Kp.refl _ _
   Xlt := hX
   glob := hgl.mono ⟨Nat.le_refl _, fun b _ hb => ⟨rfl, by
     rintro (hx | ⟨k, bi, hk, _⟩)
     · exact hb hx
     · cases hk⟩⟩ }
 show AR w (Av X fun _ => none) _ _ _
 rw [frame_getD]
 rcases startSt_get args t with e | ⟨p, hp, e⟩
 · rw [e]; exact .junk _
 · rw [e]
   refine .pure _ _ ((hv t p hp).mono ⟨Nat.le_refl _, fun b _ hb => ⟨rfl, ?_⟩⟩)
   rintro (hx | ⟨k, bi, hk, _⟩)
   · exact hb hx
   · cases hk
theorem R.defer {Γ : Ctx} {s : St} {a : Act} {w : World} (h : R Γ s a w) (hoff : Γ.y.on = false) (d : Deferred) (pk : Option (Value × (St → Prop))) :
   R { Γ with pk := pk, df := d :: a.defers } s ({ a with defers := d :: a.defers }) w := by
 obtain ⟨X, β, h, g⟩ := h
 exact ⟨X, β, h, g.sub, g.old, g.gh, (fun hon => by rw [hoff] at hon; cases hon), ⟨[], rfl, List.nodup_nil, fun d hd => by cases hd⟩⟩
theorem R0.toR {Γ : Ctx} {s : St} {a : Act} {w : World} (h : R0 Γ [] s a w) (hdf : Γ.df = []) (hoff : Γ.y.on = false) : R Γ s a w := by
 obtain ⟨hd, β, h⟩ := h
 exact ⟨Γ.X, β, { h with }, fun _ h => h, fun _ _ h => h, (fun hon => by rw [hoff] at hon; cases hon), fun _ => hd, ⟨[], by rw [hd, hdf]; rfl, List.nodup_nil, fun d hd => by cases hd⟩⟩
end Go.Avc
namespace Go.Proofs.YtjfjpnefohbobaaGreatDoor
open Go.Avc
def decode (b : List UInt8) : Val × Int := match rval 16 b with
 | (v, some []) => (v, 0)
 | _ => (zeroV, 10)
def encVE (r : Val × Int) : PV := .tup [.agg (encV r.1), .int r.2]
abbrev catchF : Nat := 140
theorem catch_idle (p q : Value) (w : World) : CallsDIn Fence.wide 0 Tryz.prog catchF #[p, q] .returning w fun e u' w' => e = .returned (.tuple #[]) ∧ u' = .returning ∧ w' = w := by
 refine callsDIn_of_wpSIn Tryz.func140 rfl trivial fun c₀ cs hu => ?_
 apply wpSIn_seq
 apply wpSIn_region
 simp [wpOpsSIn, go_sem, recoverD, hu, show Tryz.f140.ntmps = 7 from rfl, Exit.thenS]
 apply wpSIn_seq
 apply wpSIn_region
 simp [wpOpsSIn, go_sem, Exit.thenS, Array.replicate]
 refine wpSIn_cond (t := false) (by simp [Act.eval]) ?_
 simp only [Bool.false_eq_true, if_false]
 refine wpSIn_of_wpIn rfl (wpIn_skip ?_)
 cases c₀
 simp_all [bodyPostS, results, show Tryz.f140.results = #[] from rfl]
def Sd : St := ⟨[(2, .loc 2 0 0), (3, .loc 3 0 0)], [(2, some (.box [.junk, .junk, .junk, .junk])), (3, some (.box [.junk]))], [2, 3]⟩
def Sc : St := ⟨[(0, .loc 2 0 0), (1, .loc 3 0 0)], [(2, some (.box [.junk, .junk, .junk, .junk])), (3, some (.box [.junk]))], [2, 3]⟩
def zeroCells : List AV := [.int 0, .int 0, .pure (.val (.string ⟨#[]⟩)), .pure (.val (.slice none 0 0))]
def S1 : St := ⟨[(0, .loc 2 0 0), (1, .loc 3 0 0), (6, .agg zeroCells)], [(2, some (.box [.junk, .junk, .junk, .junk])), (3, some (.box [.junk]))], [2, 3]⟩
def S2 : St := ⟨[(0, .loc 2 0 0), (1, .loc 3 0 0)], [(2, some (.box zeroCells)), (3, some (.box [.junk]))], [2, 3]⟩
def S3 : St := ⟨[], [(2, some (.box zeroCells)), (3, some (.box [.int 10]))], [2, 3]⟩
def S4 : St := ⟨[(2, .loc 2 0 0), (3, .loc 3 0 0)], [(2, some (.box zeroCells)), (3, some (.box [.int 10]))], [2, 3]⟩
theorem catch_panic {w w0 : World} {X : Nat → Prop} {β β0 : BM} {tm : Array Value} {N : Nat} (h : Rl (Ctx.plain Tryz.prog N w0 X β0 []) Sd tm w β) :
   CallsDIn Fence.wide 0 Tryz.prog catchF #[tm.getD 2 undef, tm.getD 3 undef] (.panicking [{ v := brk, recovered := false }]) w fun e u' w' => e = .returned (.tuple #[]) ∧ u' = .panicking [{ v := brk, recovered := true }] ∧
     ∃ X' β', Rl (Ctx.plain Tryz.prog N w X' β []) S4 tm w' β' ∧ ∀ b, X b → X' b := by
 have hp : tm.getD 2 undef = tm.getD 2 undef := rfl
 generalize hp0 : tm.getD 2 undef = p at hp
 generalize hq0 : tm.getD 3 undef = q
 refine callsDIn_of_wpSIn Tryz.func140 rfl trivial fun c₀ cs hu => ?_
 apply wpSIn_seq
 apply wpSIn_region
 simp [wpOpsSIn, go_sem, recoverD, hu, show Tryz.f140.ntmps = 7 from rfl, Exit.thenS, brk]
 apply wpSIn_seq
 apply wpSIn_region
 simp [wpOpsSIn, go_sem, Exit.thenS, Array.replicate]
 refine wpSIn_cond (t := true) (by simp [Act.eval]) ?_
 simp only [if_true]
 refine wpSIn_of_wpIn rfl (wpIn_region_list ?_)
 generalize htc : (#[p, q, Value.iface 161 (Value.agg #[]), Value.iface 161 (Value.agg #[]), Value.iface 161 (Value.agg #[]), Value.bool true, undef] : Array Value) = tc
 let Γc : Ctx := Ctx.plain Tryz.prog 7 w X β [2, 3]
 have hgc : ∀ t, Sc.get t = if t = 0 then .loc 2 0 0 else if t = 1 then .loc 3 0 0 else .junk := fun t => by
   simp only [Sc, St.get, lk_cons, eq_comm (a := 0), eq_comm (a := 1)]
   split
   · rfl
   · split <;> rfl
 have hRc : Rl Γc Sc tc w β :=
   { size := by rw [← htc]; rfl
     slots := fun t => by
       rw [hgc]
       split
       · rename_i e; subst e
         have := h.slots 2
         rw [hp0] at this
         rw [← htc]; exact this
       · split
         · rename_i e; subst e
           have := h.slots 3
           rw [hq0] at this
           rw [← htc]; exact this
         · exact .junk _
     blks := h.blks
     inj := h.inj
     lt := h.lt
     notX := h.notX
     own := fun k bi hk hv => .inr ⟨k, bi, hk, hv, rfl⟩
     fixd := fun _ _ => rfl
     used1 := fun t k hk => by
       rw [hgc] at hk
       split at hk
       · simp [AV.keys] at hk; subst hk; simp [Sc]
       · split at hk
         · simp [AV.keys] at hk; subst hk; simp [Sc]
         · simp [AV.keys] at hk
     used2 := h.used2
     keep := Kp.refl _ _
     Xlt := h.Xlt
     glob := h.glob }
 refine wpListIn_plain rfl fun K1 hK1 => ?_
 refine op_sound0 (Γ := Γc) (a := { tmps := tc, defers := [] }) (md := false) (more5_ok0 (Γ := Γc) (md := false)) FOK.wide hRc ?_ (K := fun v acts => ∀ Γ : Ctx, Γ.fx = [2, 3] → Le Γ ((Sc.acts acts).putD (some 6) v) S1) ?_ fun v acts a1 w1 hv h1 => hK1 _ _ ?_
 · rfl
 · skip
   intro Γ hfx
   exact Le.of (by (repeat' (first|exact trivial|refine aq ?_ ?_|exact oq|fail))) (by (repeat' (first|exact trivial|refine aq ?_ ?_|refine Exists.intro _ (aq rfl ?_)|exact oq|fail))) rfl rfl (by rw [hfx]; rfl)
 have hd1 : a1.defers = [] := h1.1
 have hr1 : R Γc S1 a1 w1 := hv Γc rfl _ _ (R0.toR h1 rfl rfl)
 refine wpListIn_plain rfl fun K2 hK2 => ?_
 obtain ⟨X1, β1, h1, g1⟩ := hr1
 have h1' := h1.rebase X1 rfl
 refine op_sound0 (Γ := Γc.here X1 w1 β1) (md := false) (more5_ok0 (Γ := Γc.here X1 w1 β1) (md := false)) FOK.wide h1' ?_ (K := fun v acts => ∀ Γ : Ctx, Γ.fx = [2, 3] → Le Γ ((S1.acts acts).putD none v) S2) ?_ fun v acts a2 w2 hv h2 => hK2 _ _ ?_
 · rfl
 · conv => whnf
   refine ⟨rfl, ?_⟩
   conv => whnf
   intro Γ hfx
   exact Le.of (by (repeat' (first|exact trivial|refine aq ?_ ?_|exact oq|fail))) (by (repeat' (first|exact trivial|refine aq ?_ ?_|refine Exists.intro _ (aq rfl ?_)|exact oq|fail))) rfl rfl (by rw [hfx]; rfl)
 have hd2 : a2.defers = [] := h2.1.trans hd1
 have hr2 : R Γc S2 a2 w2 := hv Γc rfl _ _ (R.step h1 g1 h2 fun i t hi => acts_gh (putD_gh (d := none) (v := v) rfl hi))
 refine wpListIn_plain rfl fun K3 hK3 => ?_
 obtain ⟨X2, β2, h2, g2⟩ := hr2
 have h2' := h2.rebase X2 rfl
 refine op_sound0 (Γ := Γc.here X2 w2 β2) (md := false) (more5_ok0 (Γ := Γc.here X2 w2 β2) (md := false)) FOK.wide h2' ?_ (K := fun v acts => ∀ Γ : Ctx, Γ.fx = [2, 3] → Le Γ ((S2.acts acts).putD none v) S3) ?_ fun v acts a3 w3 hv h3 => hK3 _ _ ?_
 · rfl
 · conv => whnf
   refine ⟨rfl, ?_⟩
   conv => whnf
   intro Γ hfx
   exact Le.of (by (repeat' (first|exact trivial|fail))) (by (repeat' (first|exact trivial|refine aq ?_ ?_|refine Exists.intro _ (aq rfl ?_)|exact oq|fail))) rfl rfl (by rw [hfx]; rfl)
 have hd3 : a3.defers = [] := h3.1.trans hd2
 have hr3 : R Γc S3 a3 w3 := hv Γc rfl _ _ (R.step h2 g2 h3 fun i t hi => acts_gh (putD_gh (d := none) (v := v) rfl hi))
 obtain ⟨X3, β3, h3, g3⟩ := hr3
 have hb2 : β3 2 = β 2 := h3.fixd 2 (by show 2 ∈ [2, 3]; simp)
 have hb3 : β3 3 = β 3 := h3.fixd 3 (by show 3 ∈ [2, 3]; simp)
 refine ⟨hd3, .panicking [{ v := brk, recovered := true }], rfl, .tuple #[], ?_, rfl, rfl, X3, ⟨β3, ?_⟩, g3.sub⟩
 · rw [results_eq, show Tryz.f140.results = #[] from rfl]; simp
 have hg4 : ∀ t, S4.get t = if t = 2 then .loc 2 0 0 else if t = 3 then .loc 3 0 0 else .junk := fun t => by
   simp only [S4, St.get, lk_cons, eq_comm (a := 2), eq_comm (a := 3)]
   split
   · rfl
   · split <;> rfl
 exact
   { size := h.size
     slots := fun t => by
       rw [hg4]
       split
       · rename_i e; subst e
         have := h.slots 2
         change AR w (Av X β) β (.loc 2 0 0) _ at this
         generalize tm.getD 2 undef = u at this
         cases this with
         | loc _ _ _ bi hb => exact .loc 2 0 0 bi (hb2.trans hb)
         | locDead _ _ _ _ hb => exact .locDead 2 0 0 _ (hb2.trans hb)
       · split
         · rename_i e; subst e
           have := h.slots 3
           change AR w (Av X β) β (.loc 3 0 0) _ at this
           generalize tm.getD 3 undef = u at this
           cases this with
           | loc _ _ _ bi hb => exact .loc 3 0 0 bi (hb3.trans hb)
           | locDead _ _ _ _ hb => exact .locDead 3 0 0 _ (hb3.trans hb)
         · exact .junk _
     blks := h3.blks
     inj := h3.inj
     lt := h3.lt
     notX := h3.notX
     own := h3.own
     fixd := fun k hk => by cases hk
     used1 := fun t k hk => by
       rw [hg4] at hk
       split at hk
       · simp [AV.keys] at hk; subst hk; simp [S4]
       · split at hk
         · simp [AV.keys] at hk; subst hk; simp [S4]
         · simp [AV.keys] at hk
     used2 := h3.used2
     keep := h3.keep
     Xlt := h3.Xlt
     glob := h3.glob }
end Go.Proofs.YtjfjpnefohbobaaGreatDoor
/- Codec: Decode. Conditions: none. -/
namespace Go.Proofs.YtjfjpnefohbobaaGreatDoor
open Go.Avc
def A0 (b : List UInt8) : St := ⟨[(0, .pure (encB b)), (2, .loc 2 0 0)], [(2, some (.box zeroCells))], [2]⟩
def A1 (b : List UInt8) : St := ⟨[(0, .pure (encB b)), (2, .loc 2 0 0), (3, .loc 3 0 0)], [(2, some (.box zeroCells)), (3, some (.box [.int 0]))], [2, 3]⟩
def A2 (b : List UInt8) : St := ⟨[(0, .pure (encB b)), (2, .loc 2 0 0), (3, .loc 3 0 0), (5, .fn catchF [.loc 2 0 0, .loc 3 0 0])], [(2, some (.box zeroCells)), (3, some (.box [.int 0]))], [2, 3]⟩
def Dd (b : List UInt8) (s : St) : Prop := decode b = (zeroV, 10) ∧ ∀ Γ : Ctx, Γ.fx = [2, 3] → Le Γ s Sd
attribute [local irreducible] PSub Wp PSpec Le Need Both
attribute [local irreducible] rval decode
theorem decode_rest (b : List UInt8) (hb : b.length ≤ 1000000) {r0 r1 rest : Code} (hbody : Tryz.f117.body = some (.seq r0 (.seq r1 rest))) (Γ : Ctx) (hP : Γ.P = Tryz.prog) (hN : Γ.N = Tryz.f117.ntmps) (hfx : Γ.fx = [2, 3]) (hoff : Γ.y.on = false) (hpk : Γ.pk = some (brk, Dd b)) :
   vcCode (more5 false Γ.P Γ.fx) Γ Fence.wide 0 rest (A2 b) (endVC Tryz.prog Tryz.f117 (encVE (decode b))) := by
 cases hbody
 obtain ⟨P, N, w0, X, β0, fx, y, hy, pk, df⟩ := Γ
 dsimp only at hP hN hfx hoff hpk
 subst hP hN hfx hpk
 obtain ⟨q1, q2⟩ := value_spec 16 (by omega)
 have hd : decode b = match rval 16 b with
   | (v, some []) => (v, 0)
   | _ => (zeroV, 10) := by unfold decode; rfl
 cases hr : rval 16 b with
 | mk v o =>
   rw [hr] at hd
   cases o with
   | none =>
     have hd : decode b = (zeroV, 10) := hd
     rw [hd]
     skip
     refine .inl ⟨[(100, 8)], [.loc 100 0 0, .int (16 - ((16 : Nat) : Int))], [(100, some (.box [.pure (encB b)]))], [100], q2 b v hb hr, ⟨Or.inl rfl, Or.inl rfl, trivial⟩, ⟨rfl, trivial⟩, ?_⟩
     refine ⟨hd, ?_⟩
     intro Γ hfx
     exact Le.of ⟨Or.inl rfl, Or.inl rfl, trivial⟩ ⟨⟨_, rfl, Or.inr (Or.inl rfl), Or.inr (Or.inl rfl), Or.inr (Or.inl rfl), Or.inr (Or.inl rfl), trivial⟩, ⟨_, rfl, Or.inr (Or.inl rfl), trivial⟩, trivial⟩ rfl rfl (by rw [hfx]; rfl)
   | some m =>
     cases m with
     | nil =>
       rw [hd]
       skip
       refine .inr (.inr ⟨[(100, 8)], [.loc 100 0 0, .int (16 - ((16 : Nat) : Int))], [(100, some (.box [.pure (encB b)]))], [100], [100], 1, _, q1 b [] v hb hr, ⟨Or.inl rfl, Or.inl rfl, trivial⟩, ⟨rfl, trivial⟩, ?_⟩)
       repeat' ((try conv => whnf); first|refine aq rfl ?_|fail)
       exact PSub.refl _
     | cons c m =>
       have hd : decode b = (zeroV, 10) := hd
       rw [hd]
       have hm := rval_len 16 hr
       skip
       refine .inr (.inr ⟨[(100, 8)], [.loc 100 0 0, .int (16 - ((16 : Nat) : Int))], [(100, some (.box [.pure (encB b)]))], [100], [100], 1, _, q1 b (c :: m) v hb hr, ⟨Or.inl rfl, Or.inl rfl, trivial⟩, ⟨rfl, trivial⟩, ?_⟩)
       repeat' ((try conv => whnf); first|(first|refine k3 ?_ ?_|refine k4 ?_ ?_) <;> intro hb <;> (try rw [lM] at hb) <;> try (exfalso; omega)|refine aq rfl ?_|refine aq bd ?_|fail)
       · intro Γ hfx
         exact Le.of ⟨Or.inl rfl, Or.inl rfl, trivial⟩ ⟨⟨_, rfl, Or.inr (Or.inl rfl), Or.inr (Or.inl rfl), Or.inr (Or.inl rfl), Or.inr (Or.inl rfl), trivial⟩, ⟨_, rfl, Or.inr (Or.inl rfl), trivial⟩, trivial⟩ rfl rfl (by rw [hfx]; rfl)
       · exfalso
         have : ¬ (0 : Int) < ((c :: m).length : Nat) := by assumption
         simp at this
end Go.Proofs.YtjfjpnefohbobaaGreatDoor
/- Codec: the contract of Decode. Conditions: none. -/
namespace Go.Proofs.YtjfjpnefohbobaaGreatDoor
open Go.Avc
attribute [local irreducible] rval decode
theorem CallsDIn.mono {F : Fence} {n : Nat} {P : Program} {f : FuncId} {args : Array Value} {u : FrameMode} {w : World} {R R' : Ending → FrameMode → World → Prop} (h : CallsDIn F n P f args u w R) (hr : ∀ e u w, R e u w → R' e u w) : CallsDIn F n P f args u w R' :=
 ⟨h.1, fun c cs hu hroom => let ⟨e, u', w', fr, hR, rest⟩ := h.2 c cs hu hroom; ⟨e, u', w', fr, hr _ _ _ hR, rest⟩⟩
theorem arr2 {cv : Array Value} (h : cv.size = 2) : cv = #[cv.getD 0 undef, cv.getD 1 undef] := by
 apply Array.ext (by simpa using h)
 intro j hj hj'
 match j, hj with
 | 0, hj => simp [Array.getD, hj]
 | 1, hj => simp [Array.getD, hj]
 | j + 2, hj => omega
theorem defer_run {P : Program} {ρ : Operand → Value} {o : Oper} {x : Operand} {f : FuncId} {cv : Array Value} {w : World} (ho : o.op = .defer { callee := .value x, args := #[], argTypes := #[] }) (hev : ρ x = .func (.func f) #[] cv) :
   (Oper.semAt none ρ o).run P w = .ok (.defer { target := .fn (.func f) cv, args := #[] }) w := by
 simp [Oper.semAt, execOp, ho, resolve, hev, Deferred.ofValue]
theorem decode_spec (b : List UInt8) (hb : b.length ≤ 1000000) : PSpec Tryz.prog 117 [encB b] (encVE (decode b)) := by
 refine ⟨Tryz.call117, fun w X vs hgl hsz hv hX => ?_⟩
 refine (callsIn_wide (n := 0)).1 (callsIn_of_wp_marks Tryz.func117 rfl trivial ?_)
 obtain ⟨X0, β0, h0, g0⟩ := startR (P := Tryz.prog) (N := Tryz.f117.ntmps) hgl hsz (by simp) hv hX
 generalize hN : Tryz.f117.ntmps = N at *
 let Γ : Ctx := Ctx.plain Tryz.prog N w X (fun _ => none) []
 have hNv : N = 20 := hN.symm.trans rfl
 have hX0 : ∀ b, X b → X0 b := g0.sub
 refine wpIn_seq (wpIn_region_list ?_)
 -- the results
 refine wpListIn_plain rfl fun K1 hK1 => ?_
 refine op_sound0 (Γ := Γ.here X0 w β0) (md := false) (more5_ok0 (Γ := Γ.here X0 w β0) (md := false)) FOK.wide (h0.rebase (Γ := Γ.atX X0) X0 rfl) ?_ (K := fun v acts => ∀ Γ : Ctx, Γ.fx = [] → Le Γ (((startSt [encB b]).acts acts).putD (some 2) v) (A0 b)) ?_ fun v acts a1 w1 hv h1 => hK1 _ _ ?_
 · subst hNv; rfl
 · conv => whnf
   intro Γ hfx
   exact Le.of (by (repeat' (first|exact trivial|refine aq ?_ ?_|exact oq|fail))) (by (repeat' (first|exact trivial|refine aq ?_ ?_|refine Exists.intro _ (aq rfl ?_)|exact oq|fail))) rfl rfl (by rw [hfx]; rfl)
 have hd1 : a1.defers = [] := h1.1
 have hr1 : R Γ (A0 b) a1 w1 := hv Γ rfl _ _ (R.step (Γ := Γ) h0 g0 h1 fun i t hi => acts_gh (putD_gh (d := some 2) (v := v) (by subst hNv; rfl) hi))
 refine wpListIn_plain rfl fun K2 hK2 => ?_
 obtain ⟨X1, β1, h1, g1⟩ := hr1
 refine op_sound0 (Γ := Γ.here X1 w1 β1) (md := false) (more5_ok0 (Γ := Γ.here X1 w1 β1) (md := false)) FOK.wide (h1.rebase X1 rfl) ?_ (K := fun v acts => ∀ Γ : Ctx, Γ.fx = [] → Le Γ (((A0 b).acts acts).putD (some 3) v) (A1 b)) ?_ fun v acts a2 w2 hv h2 => hK2 _ _ ?_
 · subst hNv; rfl
 · conv => whnf
   intro Γ hfx
   exact Le.of (by (repeat' (first|exact trivial|refine aq ?_ ?_|exact oq|fail))) (by (repeat' (first|exact trivial|refine aq ?_ ?_|refine Exists.intro _ (aq rfl ?_)|exact oq|fail))) rfl rfl (by rw [hfx]; rfl)
 have hd2 : a2.defers = [] := h2.1.trans hd1
 have hr2 : R Γ (A1 b) a2 w2 := hv Γ rfl _ _ (R.step h1 g1 h2 fun i t hi => acts_gh (putD_gh (d := some 3) (v := v) (by subst hNv; rfl) hi))
 -- the closure
 refine wpIn_seq (wpIn_region_list ?_)
 refine wpListIn_plain rfl fun K3 hK3 => ?_
 obtain ⟨X2, β2, h2, g2⟩ := hr2
 refine op_sound0 (Γ := Γ.here X2 w2 β2) (md := false) (more5_ok0 (Γ := Γ.here X2 w2 β2) (md := false)) FOK.wide (h2.rebase X2 rfl) ?_ (K := fun v acts => ∀ Γ : Ctx, Γ.fx = [] → Le Γ (((A1 b).acts acts).putD (some 5) v) (A2 b)) ?_ fun v acts a3 w3 hv h3 => hK3 _ _ ?_
 · subst hNv; rfl
 · conv => whnf
   intro Γ hfx
   exact Le.of (by (repeat' (first|exact trivial|refine aq ?_ ?_|exact oq|fail))) (by (repeat' (first|exact trivial|refine aq ?_ ?_|refine Exists.intro _ (aq rfl ?_)|exact oq|fail))) rfl rfl (by rw [hfx]; rfl)
 have hd3 : a3.defers = [] := h3.1.trans hd2
 have hr3 : R Γ (A2 b) a3 w3 := hv Γ rfl _ _ (R.step h2 g2 h3 fun i t hi => acts_gh (putD_gh (d := some 5) (v := v) (by subst hNv; rfl) hi))
 obtain ⟨X3, β3, h3, g3⟩ := hr3
 -- it is deferred
 obtain ⟨bi2, hb2, _⟩ := h3.live (k := 2) rfl
 obtain ⟨bi3, hb3, _⟩ := h3.live (k := 3) rfl
 obtain ⟨cv, hev, hcs, hc0, hc1⟩ : ∃ cv : Array Value, a3.tmps.getD 5 undef = .func (.func catchF) #[] cv ∧ cv.size = 2 ∧ cv.getD 0 undef = .pointer (some ⟨bi2.b, 0 * bi2.sz + 0, none⟩) ∧ cv.getD 1 undef = .pointer (some ⟨bi3.b, 0 * bi3.sz + 0, none⟩) := by
   have := h3.slots 5
   change AR w3 _ β3 (.fn catchF [.loc 2 0 0, .loc 3 0 0]) _ at this
   generalize a3.tmps.getD 5 undef = u at this
   cases this with
   | fn _ _ vs hl hp =>
     refine ⟨vs, rfl, hl.1, ?_, ?_⟩
     · have := hp 0 (.loc 2 0 0) rfl
       generalize vs.getD 0 undef = u at this
       cases this with
       | loc _ _ _ bi hb => rw [hb2] at hb; cases hb; rfl
       | locDead _ _ _ _ hb => rw [hb2] at hb; cases hb
     · have := hp 1 (.loc 3 0 0) rfl
       generalize vs.getD 1 undef = u at this
       cases this with
       | loc _ _ _ bi hb => rw [hb3] at hb; cases hb; rfl
       | locDead _ _ _ _ hb => rw [hb3] at hb; cases hb
 obtain ⟨d, hdd⟩ : ∃ d : Deferred, d = { target := .fn (.func catchF) cv, args := #[] } := ⟨_, rfl⟩
 refine wpListIn_plain rfl fun K4 hK4 => ?_
 refine ⟨fun f _ => trivial, ?_⟩
 let Γ2 : Ctx := { Γ.here X3 w3 β3 with fx := [2, 3], pk := some (brk, Dd b), df := d :: a3.defers }
 have hR2 : R Γ2 (A2 b) { a3 with defers := d :: a3.defers } w3 :=
   ⟨X3, β3, { h3 with own := fun k bi hk hv => .inr ⟨k, bi, hk, hv, rfl⟩, fixd := fun _ _ => rfl, keep := Kp.refl _ _ }, fun _ h => h, fun _ _ h => h, (fun hon => by cases hon), (fun hon => by cases hon), ⟨[], rfl, List.nodup_nil, fun d hd => by cases hd⟩⟩
 have hXX : ∀ b, X b → X3 b := g3.sub
 have hown : ∀ b, Ex β3 b → w.heap.size ≤ b := by
   rintro b ⟨k, bi, hk, hv, rfl⟩
   rcases h3.own k bi hk hv with h | ⟨_, _, h, _⟩
   · exact h
   · cases h
 have hk3 : Kp (fun _ => False) w w3 := by
   have hk := h3.keep
   exact ⟨hk.os, hk.tape, hk.output, hk.size, fun b hb _ => hk.block b hb (by rintro ⟨k, bi, h, _⟩; cases h)⟩
 have hkf : ∀ {w4 : World} {E : Nat → Prop}, Kp E w3 w4 → (∀ b, E b → w.heap.size ≤ b) → Kp (fun _ => False) w w4 := fun hk hE =>
   ⟨hk.os.trans hk3.os, hk.tape.trans hk3.tape, hk.output.trans hk3.output, Nat.le_trans hk3.size hk.size, fun b hb _ => (hk.block b (Nat.lt_of_lt_of_le hb hk3.size) fun he => by have := hE b he; omega).trans (hk3.block b hb fun h => h)⟩
 have hcall : ∀ w : World, (invoke d.target d.args).run Tryz.prog w = .ok (.enter catchF (#[] ++ cv)) w := fun w => by
   rw [hdd]
   simp only [invoke, Array.empty_append]
   exact Tryz.call140 _ _
 rw [show Sem.run Tryz.prog (Oper.semAt Fence.wide.round a3.eval _) w3 = .ok (.defer d) w3 from hdd ▸ defer_run rfl hev, Oper.uponIn_defer]
 refine hK4 _ _ (wpIn_mono (code_sound (Γ := Γ2) (more := more5 false _ _) more5_ok FOK.wide _ (decode_rest b hb rfl Γ2 rfl hN.symm rfl rfl rfl) _ w3 hR2) ?_)
 rintro e a' w' ⟨s', hK | ⟨v, D, hpk, rfl, hD⟩, hr⟩
 · have fin : retVC Tryz.prog Tryz.f117 s' (encVE (decode b)) → LeavesInM Fence.wide 0 Tryz.prog Tryz.f117 a'.tmps (fun e w' => ∃ v, e = .returned v ∧ PR w' X (encVE (decode b)) v ∧ Kp (fun _ => False) w w') a'.defers .returning w' := fun hKr =>
     hr.leaveU (Γ := Γ2) (u := .returning) (by simp) rfl fun X' β w'' hr' hsub _ _ => by
       show LeavesInM Fence.wide 0 Tryz.prog _ _ _ (d :: a3.defers) _ _
       rw [hd3]
       refine ⟨by simp, .inr ⟨fun h => (by cases h), .func catchF, cv, catchF, #[] ++ cv, by rw [hdd], hcall w'', fun g _ => trivial, ?_⟩⟩
       rw [Array.empty_append, arr2 hcs]
       refine (catch_idle _ _ w'').mono ?_
       rintro e u w4 ⟨rfl, rfl, rfl⟩
       obtain ⟨v, q1, q2⟩ := ret_sound (Γ := Γ2.atX X') hr' hKr
       exact ⟨v, q1, v, rfl, q2.mono ⟨Nat.le_refl _, fun b _ hn => ⟨rfl, fun hx => hn (hsub b (hXX b hx))⟩⟩, hkf hr'.keep hown⟩
   cases e with
   | normal => exact fin hK
   | ret => exact fin hK
   | exit id => exact hK.elim
   | goto l => exact hK.elim
   | panic c => exact hK.elim
   | outgrown => exact hK.elim
 · cases hpk
   obtain ⟨hdec, hD⟩ := hD
   refine (hD Γ2 rfl _ _ hr).leaveU (Γ := Γ2) (u := .panicking [{ v := brk, recovered := false }]) (by simp) rfl fun X' β w'' hr' hsub _ _ => ?_
   show LeavesInM Fence.wide 0 Tryz.prog _ _ _ (d :: a3.defers) _ _
   rw [hd3]
   refine ⟨by simp, .inr ⟨fun h => (by cases h), .func catchF, cv, catchF, #[] ++ cv, by rw [hdd], hcall w'', fun g _ => trivial, ?_⟩⟩
   have e2 : a'.tmps.getD 2 undef = cv.getD 0 undef := by
     have := hr'.slots 2
     have hf : β 2 = some bi2 := (hr'.fixd 2 (by show 2 ∈ [2, 3]; simp)).trans hb2
     change AR w'' _ β (.loc 2 0 0) _ at this
     rw [hc0]
     generalize a'.tmps.getD 2 undef = u at this
     cases this with
     | loc _ _ _ bi hb => rw [hf] at hb; cases hb; rfl
     | locDead _ _ _ _ hb => rw [hf] at hb; cases hb
   have e3 : a'.tmps.getD 3 undef = cv.getD 1 undef := by
     have := hr'.slots 3
     have hf : β 3 = some bi3 := (hr'.fixd 3 (by show 3 ∈ [2, 3]; simp)).trans hb3
     change AR w'' _ β (.loc 3 0 0) _ at this
     rw [hc1]
     generalize a'.tmps.getD 3 undef = u at this
     cases this with
     | loc _ _ _ bi hb => rw [hf] at hb; cases hb; rfl
     | locDead _ _ _ _ hb => rw [hf] at hb; cases hb
   have hcp := catch_panic (N := N) (w0 := w3) (X := X') (β0 := β3) (tm := a'.tmps) (w := w'') (β := β) { hr' with fixd := fun k hk => by cases hk }
   rw [e2, e3, ← arr2 hcs] at hcp
   rw [Array.empty_append]
   refine CallsDIn.mono hcp ?_
   rintro e u w4 ⟨rfl, rfl, X4, β4, h4, hX4⟩
   obtain ⟨v, q1, q2⟩ := ret_sound (fn := Tryz.f117) (a := a') (res := encVE (zeroV, 10)) h4 (by
     show PSub _ _
     exact PSub.tup ⟨PSub.agg ⟨PSub.refl _, PSub.refl _, PSub.refl _, PSub.nil 4, trivial⟩, PSub.refl _, trivial⟩)
   rw [hdec]
   exact ⟨v, q1, v, rfl, q2.mono ⟨Nat.le_refl _, fun b _ hn => ⟨rfl, fun hx => hn (hX4 b (hsub b (hXX b hx)))⟩⟩, hkf (E := fun b => Ex β3 b ∨ w3.heap.size ≤ b) (Kp.trans (E := fun b => Ex β3 b ∨ w3.heap.size ≤ b) ⟨hr'.keep.os, hr'.keep.tape, hr'.keep.output, hr'.keep.size, fun b hb he => hr'.keep.block b hb fun h => he (.inl h)⟩
     ⟨h4.keep.os, h4.keep.tape, h4.keep.output, h4.keep.size, fun b hb he => h4.keep.block b hb (by
       rintro ⟨k, bi, hk, hv, rfl⟩
       rcases hr'.own k bi hk hv with h | h
       · exact he (.inr h)
       · exact he (.inl h))⟩) (fun b hb => by
     rcases hb with hb | hb
     · exact hown b hb
     · exact Nat.le_trans hk3.size hb)⟩
end Go.Proofs.YtjfjpnefohbobaaGreatDoor
/- Codec: reading undoes writing, and writing undoes reading. Conditions: none. -/
namespace Go.Proofs.YtjfjpnefohbobaaGreatDoor
open Go.Avc
theorem toNat_small {n : Nat} (h : n < 256) : (UInt8.ofNat n).toNat = n := by
 rw [UInt8.toNat_ofNat_of_lt' (by show n < 256; omega)]
theorem i_le {i n : Nat} (hn : 128 ≤ n) (h : n * 2 ^ (7 * i) < 18446744073709551616) : i ≤ 8 := by
 refine Nat.le_of_not_lt fun hi => ?_
 have h1 : 2 ^ (7 * 9) ≤ 2 ^ (7 * i) := Nat.pow_le_pow_right (by decide) (by omega)
 have h2 : 128 * 2 ^ (7 * 9) ≤ n * 2 ^ (7 * i) := Nat.mul_le_mul hn h1
 have h3 : (18446744073709551616 : Nat) ≤ 128 * 2 ^ (7 * 9) := by decide
 omega
theorem pow_7 (i : Nat) : 2 ^ (7 * (i + 1)) = 128 * 2 ^ (7 * i) := by rw [show 7 * (i + 1) = 7 + 7 * i by omega, Nat.pow_add]
theorem split_128 (n p : Nat) : n % 128 * p + n / 128 * (128 * p) = n * p := by
 rw [← Nat.mul_assoc, ← Nat.add_mul]
 congr 1
 omega
theorem pnum_numL : ∀ (n i u : Nat) (r : List UInt8), (0 < i → 0 < n) → i ≤ 9 → n * 2 ^ (7 * i) < 18446744073709551616 → pnum i u (numL n ++ r) = some (u + n * 2 ^ (7 * i), r) := by
 intro n
 induction n using Nat.strongRecOn with
 | _ n ih =>
   intro i u r h0 hi hn
   by_cases hb : n < 128
   · rw [numL_small hb, List.singleton_append, pnum_cons, toNat_small (by omega)]
     have h9 : i = 9 → n ≤ 1 := fun e => by
       subst e
       refine Nat.le_of_not_lt fun h2 => ?_
       have h3 : 2 * 2 ^ (7 * 9) ≤ n * 2 ^ (7 * 9) := Nat.mul_le_mul_right _ h2
       have h4 : (18446744073709551616 : Nat) ≤ 2 * 2 ^ (7 * 9) := by decide
       omega
     rw [if_neg (by rintro (⟨h, h'⟩ | ⟨h, h'⟩); have := h9 h; omega; have := h0 h; omega), if_pos hb, Nat.mod_eq_of_lt hb]
   · have hi8 := i_le (by omega) hn
     have hp := pow_7 i
     have hs := split_128 n (2 ^ (7 * i))
     rw [numL_big (by omega), List.cons_append, pnum_cons, toNat_small (by omega)]
     rw [if_neg (by omega), if_neg (by omega), show (n % 128 + 128) % 128 = n % 128 by omega, ih (n / 128) (by omega) (i + 1) _ r (fun _ => by omega) (by omega) (by rw [hp]; omega), hp]
     congr 2
     omega
theorem pnum_inv : ∀ (b : List UInt8) (i u : Nat) {n' : Nat} {r : List UInt8}, pnum i u b = some (n', r) → ∃ n, b = numL n ++ r ∧ n' = u + n * 2 ^ (7 * i) ∧ (0 < i → 0 < n)
 | [], i, u, n', r, h => by simp [pnum] at h
 | c :: b, i, u, n', r, h => by
   rw [pnum_cons] at h
   split at h
   · cases h
   rename_i hno
   have hcl := UInt8.toNat_lt c
   split at h
   · rename_i hc
     have h1 := congrArg Prod.fst (Option.some.inj h)
     have h2 := congrArg Prod.snd (Option.some.inj h)
     dsimp only at h1 h2
     refine ⟨c.toNat, ?_, by rw [← h1, Nat.mod_eq_of_lt hc], fun hi => by omega⟩
     rw [numL_small hc, h2]
     simp
   · rename_i hc
     obtain ⟨n1, e1, e2, e3⟩ := pnum_inv b _ _ h
     have hp := pow_7 i
     have hn1 := e3 (by omega)
     have hs := split_128 (c.toNat % 128 + 128 * n1) (2 ^ (7 * i))
     rw [show (c.toNat % 128 + 128 * n1) % 128 = c.toNat % 128 by omega, show (c.toNat % 128 + 128 * n1) / 128 = n1 by omega] at hs
     refine ⟨c.toNat % 128 + 128 * n1, ?_, ?_, fun _ => by omega⟩
     · rw [numL_big (by omega), show (c.toNat % 128 + 128 * n1) % 128 + 128 = c.toNat by omega, show (c.toNat % 128 + 128 * n1) / 128 = n1 by omega, e1]
       simp
     · rw [e2, hp]; omega
theorem pnum_get {n : Nat} (h : n < 18446744073709551616) (r : List UInt8) : pnum 0 0 (numL n ++ r) = some (n, r) := by
 rw [pnum_numL n 0 0 r (fun h => by omega) (by omega) (by simpa using h)]
 simp
theorem pnum_got {b r : List UInt8} {n : Nat} (h : pnum 0 0 b = some (n, r)) : b = numL n ++ r := by
 obtain ⟨m, h1, h2, _⟩ := pnum_inv b 0 0 h
 have : n = m := by rw [h2]; simp
 rw [this]; exact h1
theorem sg_zz {n : Int} : sg (zz n) = n := by unfold sg zz; split <;> split <;> omega
theorem zz_sg {u : Nat} : zz (sg u) = u := by unfold sg zz; split <;> split <;> omega
theorem rone_cons (p : Option (List UInt8 → Val × Option (List UInt8))) (c : UInt8) (r : List UInt8) : rone p (c :: r) = if c.toNat = 1 then (match pnum 0 0 r with
     | none => (.mk 1 0 ⟨#[]⟩ [], none)
     | some (u, r') => (.mk 1 (sg u) ⟨#[]⟩ [], some r'))
   else if c.toNat = 2 then (match pnum 0 0 r with
     | none => (zeroV, none)
     | some (n, r') => if n ≤ r'.length then (.mk 2 0 ⟨(r'.take n).toArray⟩ [], some (r'.drop n)) else (zeroV, none))
   else if c.toNat = 3 then rlist p r
   else (zeroV, none) := rfl
theorem rvals_enc {p : List UInt8 → Val × Option (List UInt8)} : ∀ (l : List Val) (r : List UInt8), (∀ x ∈ l, ∀ r, p (x.enc ++ r) = (x, some r)) → rvals p l.length (bytesL l ++ r) = (l, some r)
 | [], r, _ => rfl
 | x :: l, r, h => by
   rw [List.length_cons, rvals_succ]
   simp only [bytesL, List.append_assoc]
   rw [h x List.mem_cons_self]
   dsimp only
   rw [rvals_enc l r fun y hy => h y (List.mem_cons_of_mem _ hy)]
theorem rval_enc : ∀ v : Val, v.formed = true → v.enc.length < 18446744073709551616 → v.inR → (∀ x ∈ v.kids, x.fits) → ∀ (f : Nat) (r : List UInt8), v.depth ≤ f → rval f (v.enc ++ r) = (v, some r) := by
 refine Val.ind fun v ih => ?_
 intro hform hlen hin hfit f r hd
 have he := v.enc_eq
 have hff := v.formed_eq
 rw [hform] at hff
 rw [rval_eq]
 rcases (formed_kids hform).1 with ⟨hk, hnil⟩ | ⟨hk, hnil⟩ | hk
 · rw [if_pos hk] at hff he
   simp only [Bool.true_eq, Bool.and_eq_true, decide_eq_true_eq] at hff
   rw [he, List.cons_append, rone_cons, if_pos (by decide), pnum_get (zz_lt hin)]
   simp only [sg_zz, Prod.mk.injEq, and_true]
   exact Val.ext hk.symm rfl hff.1.symm hnil.symm
 · rw [if_neg (by omega), if_pos hk] at hff he
   simp only [Bool.true_eq, Bool.and_eq_true, decide_eq_true_eq] at hff
   have hsz : v.str.data.toList.length = v.str.size := by simp
   rw [he] at hlen
   simp only [List.length_cons, List.length_append] at hlen
   rw [he, List.cons_append, rone_cons, if_neg (by decide), if_pos (by decide), List.append_assoc, pnum_get (by omega)]
   dsimp only
   rw [if_pos (by simp), show v.str.size = v.str.data.toList.length from hsz.symm, List.take_left, List.drop_left]
   refine Prod.ext (Val.ext hk.symm hff.1.symm rfl hnil.symm) rfl
 · rw [if_neg (by omega), if_neg (by omega), if_pos hk] at hff
   rw [if_neg (by omega), if_neg (by omega)] at he
   simp only [Bool.true_eq, Bool.and_eq_true, decide_eq_true_eq] at hff
   have hkl := kids_le v.kids
   have hdep := v.depth_eq
   rw [if_pos hk] at hdep
   rw [he] at hlen
   simp only [List.length_cons, List.length_append] at hlen
   rw [he, List.cons_append, rone_cons, if_neg (by decide), if_neg (by decide), if_pos (by decide)]
   unfold rlist
   rw [List.append_assoc, pnum_get (by omega)]
   cases f with
   | zero => omega
   | succ f =>
     unfold pf
     dsimp only
     rw [if_pos (by simp; omega), rvals_enc v.kids r fun x hx r => ?_]
     · exact Prod.ext (Val.ext hk.symm hff.1.1.symm hff.1.2.symm rfl) rfl
     have hxe : x.enc.length ≤ (bytesL v.kids).length := by
       obtain ⟨a, b, e⟩ := List.append_of_mem hx
       rw [e, bytesL_app]; simp [bytesL]; omega
     have hxd : x.depth ≤ depthL v.kids := by
       obtain ⟨a, b, e⟩ := List.append_of_mem hx
       have : ∀ (a b : List Val), x.depth ≤ depthL (a ++ x :: b) := fun a b => by
         induction a with
         | nil => simp only [List.nil_append, depthL]; omega
         | cons y a ih => simp only [List.cons_append, depthL]; omega
       rw [e]; exact this a b
     have hxf := (Val.fits_iff x).1 (hfit x hx)
     exact ih x hx ((formed_kids hform).2 x hx) (by omega) hxf.2.1 hxf.2.2 f r (by omega)
theorem rone_nil (p : Option (List UInt8 → Val × Option (List UInt8))) : rone p [] = (zeroV, none) := rfl
def Val.got (v : Val) (f : Nat) (b r : List UInt8) : Prop := v.formed = true ∧ v.depth ≤ f ∧ b = v.enc ++ r ∧ v.inR ∧ (∀ x ∈ v.kids, x.fits)
theorem Val.got_fits {v : Val} {f : Nat} {b r : List UInt8} (h : v.got f b r) (hb : b.length ≤ 1000000) : v.fits := by
 refine (Val.fits_iff v).2 ⟨?_, h.2.2.2⟩
 have he := v.enc_eq
 have h1 := congrArg List.length h.2.2.1
 rw [List.length_append] at h1
 rcases (formed_kids h.1).1 with ⟨hk, hnil⟩ | ⟨hk, hnil⟩ | hk
 · have hff := v.formed_eq
   rw [h.1, if_pos hk] at hff
   simp only [Bool.true_eq, Bool.and_eq_true, decide_eq_true_eq] at hff
   rw [hff.1]; decide
 · rw [if_neg (by omega), if_pos hk] at he
   have := congrArg List.length he
   simp only [List.length_cons, List.length_append, Array.length_toList] at this
   have e : v.str.data.size = v.str.size := rfl
   omega
 · have hff := v.formed_eq
   rw [h.1, if_neg (by omega), if_neg (by omega), if_pos hk] at hff
   simp only [Bool.true_eq, Bool.and_eq_true, decide_eq_true_eq] at hff
   rw [hff.1.2]; decide
theorem rvals_got {p : List UInt8 → Val × Option (List UInt8)} {f : Nat} (hp : ∀ b v r, b.length ≤ 1000000 → p b = (v, some r) → v.got f b r) : ∀ (n : Nat) (b : List UInt8) {l : List Val} {r : List UInt8}, b.length ≤ 1000000 → rvals p n b = (l, some r) →
   l.length = n ∧ b = bytesL l ++ r ∧ (∀ x ∈ l, x.formed = true) ∧ depthL l ≤ f ∧ ∀ x ∈ l, x.fits
 | 0, b, l, r, hb, h => by
   rw [rvals_zero] at h
   obtain ⟨rfl, h2⟩ := Prod.mk.inj h
   refine ⟨rfl, ?_, by simp, Nat.zero_le _, by simp⟩
   rw [Option.some.inj h2]; rfl
 | n + 1, b, l, r, hb, h => by
   rw [rvals_succ] at h
   cases hv : p b with
   | mk v o =>
     rw [hv] at h
     cases o with
     | none => simp at h
     | some r' =>
       dsimp only at h
       have hg := hp _ _ _ hb hv
       have hl : r'.length ≤ 1000000 := by have := congrArg List.length hg.2.2.1; rw [List.length_append] at this; omega
       cases hr : rvals p n r' with
       | mk l' o' =>
         rw [hr] at h
         obtain ⟨rfl, rfl⟩ := Prod.mk.inj h
         obtain ⟨h1, h2, h3, h4, h5⟩ := rvals_got hp n r' hl hr
         refine ⟨by simp [h1], ?_, ?_, ?_, ?_⟩
         · rw [hg.2.2.1, h2]; simp [bytesL]
         · intro x hx
           rcases List.mem_cons.1 hx with rfl | hx
           · exact hg.1
           · exact h3 x hx
         · simp only [depthL]; have := hg.2.1; omega
         · intro x hx
           rcases List.mem_cons.1 hx with rfl | hx
           · exact Val.got_fits hg hb
           · exact h5 x hx
theorem zero_in : -9223372036854775808 ≤ (0 : Int) ∧ (0 : Int) ≤ 9223372036854775807 := by decide
theorem num_got (n : Int) (h : -9223372036854775808 ≤ n ∧ n ≤ 9223372036854775807) (f : Nat) {b r : List UInt8} (hb : b = 1 :: numL (zz n) ++ r) : (Val.mk 1 n ⟨#[]⟩ []).got f b r := by
 refine ⟨by rw [Val.formed_eq]; rfl, by rw [Val.depth_eq]; exact Nat.zero_le _, ?_, h, by intro x hx; cases hx⟩
 rw [Val.enc_eq, hb]; rfl
theorem str_got (s : ByteArray) (f : Nat) {b r : List UInt8} (hb : b = 2 :: (numL s.size ++ s.data.toList) ++ r) : (Val.mk 2 0 s []).got f b r := by
 refine ⟨by rw [Val.formed_eq]; rfl, by rw [Val.depth_eq]; exact Nat.zero_le _, ?_, zero_in, by intro x hx; cases hx⟩
 rw [Val.enc_eq, hb]; rfl
theorem lst_got (l : List Val) (f : Nat) {b r : List UInt8} (h3 : ∀ x ∈ l, x.formed = true) (h4 : depthL l + 1 ≤ f) (h5 : ∀ x ∈ l, x.fits) (hb : b = 3 :: (numL l.length ++ bytesL l) ++ r) : (Val.mk 3 0 ⟨#[]⟩ l).got f b r := by
 refine ⟨?_, by rw [Val.depth_eq]; exact h4, ?_, zero_in, h5⟩
 · rw [Val.formed_eq]
   show (true && true && l.all Val.formed) = true
   simpa using h3
 · rw [Val.enc_eq, hb]; rfl
theorem pf_zero : pf 0 = none := rfl
theorem pf_succ (f : Nat) : pf (f + 1) = some (rval f) := rfl
theorem rval_got : ∀ (f : Nat) (b : List UInt8) (v : Val) (r : List UInt8), b.length ≤ 1000000 → rval f b = (v, some r) → v.got f b r := by
 intro f
 induction f with
 | zero =>
   intro b v r hb h
   rw [rval_eq, pf_zero] at h
   cases b with
   | nil => rw [rone_nil] at h; simp at h
   | cons c b =>
   rw [rone_cons] at h
   simp only [List.length_cons] at hb
   split at h
   · rename_i hc
     cases hn : pnum 0 0 b with
     | none => rw [hn] at h; simp at h
     | some x =>
       obtain ⟨u, r'⟩ := x
       rw [hn] at h
       obtain ⟨rfl, h2⟩ := Prod.mk.inj h
       have h2 := Option.some.inj h2
       subst h2
       have hgot := pnum_got hn
       have hlt := pnum_lt b 0 0 (by omega) (by simp) hn
       exact num_got _ (sg_range hlt) _ (by rw [zz_sg, hgot, show c = 1 from UInt8.toNat_inj.1 hc]; rfl)
   rename_i hc1
   split at h
   · rename_i hc
     cases hn : pnum 0 0 b with
     | none => rw [hn] at h; simp at h
     | some x =>
       obtain ⟨u, r'⟩ := x
       rw [hn] at h
       dsimp only at h
       split at h
       case isFalse => simp at h
       rename_i hlen
       obtain ⟨rfl, h2⟩ := Prod.mk.inj h
       have h2 := Option.some.inj h2
       subst h2
       have hgot := pnum_got hn
       refine str_got _ _ ?_
       rw [show c = 2 from UInt8.toNat_inj.1 hc, hgot, show (⟨(r'.take u).toArray⟩ : ByteArray).size = u from by show (r'.take u).toArray.size = u; simp; omega]
       simp
   rename_i hc2
   split at h
   case isFalse => simp at h
   rename_i hc
   exact absurd h (by unfold rlist; cases pnum 0 0 b <;> simp)
 | succ f ih =>
   intro b v r hb h
   rw [rval_eq, pf_succ] at h
   cases b with
   | nil => rw [rone_nil] at h; simp at h
   | cons c b =>
   rw [rone_cons] at h
   simp only [List.length_cons] at hb
   split at h
   · rename_i hc
     cases hn : pnum 0 0 b with
     | none => rw [hn] at h; simp at h
     | some x =>
       obtain ⟨u, r'⟩ := x
       rw [hn] at h
       obtain ⟨rfl, h2⟩ := Prod.mk.inj h
       have h2 := Option.some.inj h2
       subst h2
       have hgot := pnum_got hn
       have hlt := pnum_lt b 0 0 (by omega) (by simp) hn
       exact num_got _ (sg_range hlt) _ (by rw [zz_sg, hgot, show c = 1 from UInt8.toNat_inj.1 hc]; rfl)
   rename_i hc1
   split at h
   · rename_i hc
     cases hn : pnum 0 0 b with
     | none => rw [hn] at h; simp at h
     | some x =>
       obtain ⟨u, r'⟩ := x
       rw [hn] at h
       dsimp only at h
       split at h
       case isFalse => simp at h
       rename_i hlen
       obtain ⟨rfl, h2⟩ := Prod.mk.inj h
       have h2 := Option.some.inj h2
       subst h2
       have hgot := pnum_got hn
       refine str_got _ _ ?_
       rw [show c = 2 from UInt8.toNat_inj.1 hc, hgot, show (⟨(r'.take u).toArray⟩ : ByteArray).size = u from by show (r'.take u).toArray.size = u; simp; omega]
       simp
   rename_i hc2
   split at h
   case isFalse => simp at h
   rename_i hc
   unfold rlist at h
   cases hn : pnum 0 0 b with
   | none => rw [hn] at h; simp at h
   | some x =>
     obtain ⟨n, r'⟩ := x
     rw [hn] at h
     dsimp only at h
     split at h
     case isFalse => simp at h
     rename_i hlen
     have hgot := pnum_got hn
     have hl' : r'.length ≤ 1000000 := by have := pnum_len b 0 0 hn; omega
     cases hr : rvals (rval f) n r' with
     | mk l o =>
       rw [hr] at h
       obtain ⟨rfl, rfl⟩ := Prod.mk.inj h
       obtain ⟨h1, h2, h3, h4, h5⟩ := rvals_got ih n r' hl' hr
       exact lst_got l _ h3 (Nat.succ_le_succ h4) h5 (by rw [show c = 3 from UInt8.toNat_inj.1 hc, hgot, h1, h2]; simp)
end Go.Proofs.YtjfjpnefohbobaaGreatDoor
/- Codec: plain laws of Encode, Decode, Size, few. Conditions: none. -/
namespace Go.Proofs.YtjfjpnefohbobaaGreatDoor
open Go.Avc
theorem decode_enc {v : Val} (h : v.check = 0) (hl : v.enc.length ≤ 1000000) (hf : v.fits) : decode v.enc = (v, 0) := by
 have ho := check_ok h
 have hi := v.fits_iff.1 hf
 have := rval_enc v ho.1 (by omega) hi.2.1 hi.2.2 16 [] ho.2
 rw [List.append_nil] at this
 unfold decode
 rw [this]
theorem check_iff {v : Val} : v.check = 0 ↔ v.formed = true ∧ v.depth ≤ 16 := ⟨check_ok, fun h => by unfold Val.check; rw [if_pos h.1, if_neg (by omega)]⟩
theorem decode_cases (b : List UInt8) (hb : b.length ≤ 1000000) : (∃ v : Val, decode b = (v, 0) ∧ v.check = 0 ∧ v.enc = b ∧ v.fits) ∨ decode b = (zeroV, 10) := by
 unfold decode
 split
 · rename_i v h
   have hg := rval_got 16 b v [] hb h
   refine .inl ⟨v, rfl, check_iff.2 ⟨hg.1, hg.2.1⟩, ?_, Val.got_fits hg hb⟩
   have := hg.2.2.1
   rw [List.append_nil] at this
   exact this.symm
 · exact .inr rfl
def lstV (l : List Val) : Val := .mk 3 0 ⟨#[]⟩ l
def intV (n : Int) : Val := .mk 1 n ⟨#[]⟩ []
theorem lstV_enc (l : List Val) : (lstV l).enc = 3 :: (numL l.length ++ bytesL l) := by rw [Val.enc_eq]; rfl
theorem intV_enc (n : Int) : (intV n).enc = 1 :: numL (zz n) := by rw [Val.enc_eq]; rfl
theorem lstV_depth (l : List Val) : (lstV l).depth = depthL l + 1 := by rw [Val.depth_eq]; rfl
theorem lstV_formed (l : List Val) : (lstV l).formed = l.all Val.formed := by
 rw [Val.formed_eq]
 show (true && true && l.all Val.formed) = l.all Val.formed
 simp
theorem lstV_fits {l : List Val} (h : ∀ x ∈ l, x.fits) : (lstV l).fits := by rw [Val.fits_iff]; exact ⟨by show (0 : Nat) ≤ _; omega, zero_in, h⟩
theorem intV_fits {n : Int} (h : -9223372036854775808 ≤ n ∧ n ≤ 9223372036854775807) : (intV n).fits := by rw [Val.fits_iff]; exact ⟨by show (0 : Nat) ≤ _; omega, h, by intro x hx; cases hx⟩
end Go.Proofs.YtjfjpnefohbobaaGreatDoor
